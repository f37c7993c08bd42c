/- The law FnSumTimes holds for all that it draws. -/
import Derived.Laws.BitsLemmas
import Derived.Test.YtpkpgdlbgcjloaaCFnSumTimes1
import Derived.Test.YtpkpgdlbgcjloaaCFnSumTimes8
import Derived.Test.YtpkpgdlbgcjloaaCFnSumTimes9
import Derived.Test.YtpkpgdlbgcjloaaCFnSumTimes10
import Derived.Test.YtpkpgdlbgcjloaaCFnSumTimes11
namespace Go.Proofs.Ytpkpgdlbgcjloaa.Q
open Go.RowKit Go.Proofs.YtpkpgdlbgcjloaaW.PrintWords Go.Proofs.YtpkpgdlbgcjloaaW.PrintLast Go.Proofs.YtpkpgdlbgcjloaaW.PrintMore
attribute [local go_sem] max2_int min2_int max_two min_two max_three min_three max_four min_four   -- for this text's walks alone
set_option linter.unusedVariables false
set_option linter.unusedSimpArgs false
mutual
def impl_star.l0 : Nat → List Bool → Int → Int → List Bool → List Bool → Option (List Bool)
 | 0, _, _, _, _, _ => none
 | k + 1, x5, x11, x12, x243000, x243001 => if x12 < x11 then (if 0 ≤ x12 then (if x12 < (x5.length : Int) then (impl_star.l1 k (x5.set (x12 : Int).toNat (x12 == 0)) x12 1 x11 x12 x243000 x243001) else (none)) else (none)) else (some x5)
def impl_star.l1 : Nat → List Bool → Int → Int → Int → Int → List Bool → List Bool → Option (List Bool)
 | 0, _, _, _, _, _, _, _ => none
 | k + 1, x5, x6, x7, x11, x12, x243000, x243001 => if x7 ≤ x6 then (if 0 ≤ x6 then (if x6 < (x5.length : Int) then (if rdOf false x5 x6 = true then (impl_star.l0 k x5 x11 (wrap64 (x12 + 1)) x243000 x243001) else ((impl_set_has.f x243000 x243001 x7).bind fun t248 => (if t248 = true then (if 0 ≤ (wrap64 (x6 - x7)) then (if (wrap64 (x6 - x7)) < (x5.length : Int) then (impl_star.l1 k (x5.set (x6 : Int).toNat (rdOf false x5 (wrap64 (x6 - x7)))) x6 (wrap64 (x7 + 1)) x11 x12 x243000 x243001) else (none)) else (none)) else (impl_star.l1 k (x5.set (x6 : Int).toNat false) x6 (wrap64 (x7 + 1)) x11 x12 x243000 x243001)))) else (none)) else (none)) else (impl_star.l0 k x5 x11 (wrap64 (x12 + 1)) x243000 x243001)
end
def impl_star.f (k : Nat) (l0_0 : List Bool) (l0_1 : List Bool) (a1 : Int) : Option (List Bool) := if 0 ≤ a1 then (if (a1 : Int).toNat ≤ 281474976710656 then ((some (List.replicate (a1 : Int).toNat false : List Bool)).bind fun y243 => (impl_star.l0 k y243 (y243.length : Int) 0 l0_0 l0_1)) else (none)) else (none)
theorem impl_star.mono_l : ∀ k, (∀ y0 y1 y2 y3 y4, LeO (impl_star.l0 k y0 y1 y2 y3 y4) (impl_star.l0 (k + 1) y0 y1 y2 y3 y4)) ∧ (∀ y0 y1 y2 y3 y4 y5 y6, LeO (impl_star.l1 k y0 y1 y2 y3 y4 y5 y6) (impl_star.l1 (k + 1) y0 y1 y2 y3 y4 y5 y6))
 | 0 => ⟨fun _ _ _ _ _ r h => by simp [impl_star.l0] at h, fun _ _ _ _ _ _ _ r h => by simp [impl_star.l1] at h⟩
 | k + 1 => by
  obtain ⟨ih0, ih1⟩ := impl_star.mono_l k
  refine ⟨?_, ?_⟩
  ·intro y0 y1 y2 y3 y4
   unfold impl_star.l0
   repeat' first | (with_reducible exact ih1 _ _ _ _ _ _ _) | (with_reducible exact LeO.refl _) | (with_reducible refine LeO.ite ?_ ?_)
  ·intro y0 y1 y2 y3 y4 y5 y6
   unfold impl_star.l1
   repeat' first | (with_reducible exact ih0 _ _ _ _ _) | (with_reducible exact ih1 _ _ _ _ _ _ _) | (with_reducible exact LeO.refl _) | (with_reducible refine LeO.ite ?_ ?_) | (with_reducible refine LeO.bind ?_ (fun _ => ?_))
theorem impl_star.mono : ∀ a0 a1 a2 k, LeO (impl_star.f k a0 a1 a2) (impl_star.f (k + 1) a0 a1 a2) := by
 intro a0 a1 a2 k
 obtain ⟨ih0, ih1⟩ := impl_star.mono_l k
 unfold impl_star.f
 repeat' first | (with_reducible exact ih0 _ _ _ _ _) | (with_reducible exact LeO.refl _) | (with_reducible refine LeO.ite ?_ ?_) | (with_reducible refine LeO.bind ?_ (fun _ => ?_))
set_option maxHeartbeats 8000000 in
set_option maxRecDepth 100000 in
theorem impl_star.calls (k : Nat) (A0_0 : Option Addr) (c0_0 : Nat) (l0_0 : List Bool) (A0_1 : Option Addr) (c0_1 : Nat) (l0_1 : List Bool) (a1 : Int) (r : List Bool) (w : World) (hr0_0 : Kd.C Kd.bool w A0_0 l0_0.length l0_0) (hc0_0 : l0_0.length ≤ c0_0) (hr0_1 : Kd.C Kd.bool w A0_1 l0_1.length l0_1) (hc0_1 : l0_1.length ≤ c0_1) (h : impl_star.f k l0_0 l0_1 a1 = some r) :
  Calls Try.prog 70 #[.agg #[.slice A0_0 l0_0.length c0_0, .slice A0_1 l0_1.length c0_1], .int .i64 a1] w fun e w' => ∃ v0_ : Value, e = .returned (v0_) ∧ Kd.R Kd.bool 4 w' w.heap.size (fun _ => True) v0_ r ∧ Below w.heap.size w w' := by
 have hu60 := Try.underlying60
 have HR0_0 := Aside0.mk hr0_0
 have HC0_0 := Aside0.mk hc0_0
 clear hr0_0 hc0_0
 have HR0_1 := Aside0.mk hr0_1
 have HC0_1 := Aside0.mk hc0_1
 clear hr0_1 hc0_1
 have HB := Aside0.mk (Below.refl w.heap.size w)
 have H : (if 0 ≤ a1 then (if (a1 : Int).toNat ≤ 281474976710656 then ((some (List.replicate (a1 : Int).toNat false : List Bool)).bind fun y243 => (impl_star.l0 k y243 (y243.length : Int) 0 l0_0 l0_1)) else (none)) else (none)) = some r := h
 clear h
 by_cases c3 : 0 ≤ a1
 ·rw [if_pos c3] at H
  have c3b0 := eq_true c3
  have c3b1 : decide (0 ≤ a1) = true := decide_eq_true c3
  clear c3
  by_cases c4 : (a1 : Int).toNat ≤ 281474976710656
  ·rw [if_pos c4] at H
   have c4b0 := eq_true c4
   have c4b1 : decide ((a1 : Int).toNat ≤ 281474976710656) = true := decide_eq_true c4
   clear c4
   obtain ⟨y243, hy243⟩ : ∃ y_ : List Bool, y_ = (List.replicate (a1 : Int).toNat false) := ⟨_, rfl⟩
   replace H : (impl_star.l0 k y243 (y243.length : Int) 0 l0_0 l0_1) = some r := by first | (have H2_ := (Option.bind_some _ _).symm.trans H; rw [hy243]; with_reducible exact H2_)
   have Ny243 := Aside0.mk hy243
   clear hy243
   have H' := Aside0.mk H
   clear H
   go_enter Try.func70, Try.ntmps70
   go_wp2_with (first | ((with_reducible refine gate_dst (N := 2) rfl ?_); refine box_event ?hg (N := 2) ?hd (cs := #[.slice A0_0 l0_0.length c0_0, .slice A0_1 l0_1.length c0_1]) (t := 60) ?hr ?_; (case hd => rfl); (case hg => rfl); (case hr => first | (go_simp; done)); intro gb242 hg w5 hbox hb; have BK242 := Aside0.mk hbox; have GW242 := Aside0.mk ((by rw [hg]; exact (below_size HB.out) : w.heap.size ≤ gb242)); have GE242 := Aside0.mk ((by rw [hg]; exact (below_size HB.out) : w.heap.size ≤ gb242)); replace HB := Aside0.mk (below_step HB.out hb); clear hb hbox hg) | ((with_reducible refine gate_dst (N := 9) rfl ?_); refine Kd.R_make Kd.bool _ 4 rfl (N := 9) rfl 58 _ _ rfl a1 rfl rfl Try.underlying58 (.bool false) 1 info4 rfl (by decide) (by omega) false (ok := fun _ => True) (okp := fun _ => True) rfl (fun _ hk => hk) trivial (of_decide_eq_true (by (with_reducible assumption))) (Nat.le_trans (Nat.mul_le_mul_right _ (of_decide_eq_true (by (with_reducible assumption)) : a1.toNat ≤ 281474976710656)) (by omega)) (Below.refl _ _) (Nat.le_refl _) ?_; intro v244 w6 ho7 hb hg_ hnew_; clear hg_ hnew_; (rw [← Ny243.out] at ho7); have HO245 := Aside0.mk (Kd.R_lower ho7 (below_size HB.out)); replace BK242 := Aside0.mk (blk_below (g := gb242) (o := .cells #[.slice A0_0 l0_0.length c0_0, .slice A0_1 l0_1.length c0_1] 60 (0, 0)) BK242.out hb); replace HB := Aside0.mk (below_step HB.out hb); clear hb ho7; obtain ⟨Ao8, co8, eo8⟩ := Kd.R_slice HO245.out; subst eo8))
   go_loopg [12] k (fun kq v12 w' => ∃ (x5_1 : List Bool) (x12_1 : Int), v12 = .int .i64 x12_1 ∧ Aside0 (impl_star.l0 kq x5_1 (y243.length : Int) x12_1 l0_0 l0_1 = some r) ∧ Aside0 (kq ≤ k) ∧ Aside0 (Kd.R Kd.bool 4 w' w.heap.size (fun _ => True) (.slice Ao8 y243.length co8) x5_1) ∧ Aside0 (w'.heap[gb242]? = some (.cells #[(.slice A0_0 l0_0.length c0_0), (.slice A0_1 l0_1.length c0_1)] 60 (0, 0))) ∧ Aside0 (Below w.heap.size w w'))
   case atStart => exact ⟨(y243), (0), (by rfl), H', ⟨Nat.le_refl _⟩, ⟨by exact HO245.out⟩, ⟨by exact BK242.out⟩, ⟨HB.out⟩⟩
   case round =>
    clear H'
    try clear c3b0
    try clear c3b1
    try clear c4b0
    try clear c4b1
    obtain ⟨x5_1, x12_1, rfl, HA, HK1, HO_5, BK242, HB⟩ := hrel
    have hl5_1 := (Kd.R_reads' HO_5.out).1
    rw [hl5_1] at HO_5
    (try simp only [hl5_1])
    cases gk with
    | zero => exact absurd HA.out (by simp [impl_star.l0])
    | succ k1 =>
     have H := HA.out
     clear HA
     simp only [impl_star.l0] at H
     by_cases c9 : x12_1 < (y243.length : Int)
     ·rw [if_pos c9] at H
      have c9b0 : decide (x12_1 < (y243.length : Int)) = true := decide_eq_true c9
      have c9b0z := c9b0
      (try simp only [hl5_1] at c9b0z)
      clear c9
      by_cases c10 : 0 ≤ x12_1
      ·rw [if_pos c10] at H
       have c10b0 : decide (0 ≤ x12_1) = true := decide_eq_true c10
       clear c10
       by_cases c11 : x12_1 < (x5_1.length : Int)
       ·rw [if_pos c11] at H
        have c11b0 : decide (x12_1 < (x5_1.length : Int)) = true := decide_eq_true c11
        have c11b0z := c11b0
        clear c11
        obtain ⟨y246, hy246⟩ : ∃ y_ : List Bool, y_ = (x5_1.set (x12_1 : Int).toNat (x12_1 == 0)) := ⟨_, rfl⟩
        replace H : (impl_star.l1 k1 y246 x12_1 1 (y243.length : Int) x12_1 l0_0 l0_1) = some r := by first | (rw [hy246]; with_reducible exact H)
        have Ny246 := Aside0.mk hy246
        clear hy246
        have H' := Aside0.mk H
        clear H
        have p12 : 0 ≤ (x12_1 : Int) := of_decide_eq_true (by (with_reducible assumption))
        have q12 : (x12_1 : Int) < ((x5_1.length : Int) : Int) := of_decide_eq_true (by (with_reducible assumption))
        obtain ⟨go12, co12, eo12, gb12, gl12, cl12, HG12⟩ := Kd.R_form HO_5.out (by omega)
        (cases eo12)
        have GB12 := Aside0.mk gb12
        have GG12 := Aside0.mk HG12
        clear gb12 gl12 HG12
        obtain ⟨hx12_0, hf12_0⟩ := Kd.R_celln false HO_5.out (x12_1 : Int) p12 q12
        replace p12 := eq_true p12
        replace q12 := eq_true q12
        have HP13 := Kd.R_putg HO_5.out (x12_1 : Int) (x12_1 == 0)
        go_wp2_with (first | ((with_reducible refine gate_store (t := 4) (p := 19) rfl ?_); refine store_event (t := 4) (p := 19) (v := ?vo_w14) (w1 := (wr.setCell ⟨go12, (x12_1 : Int).toNat, none⟩ (.bool (x12_1 == 0)))) ?hg ?ho ?hn ?hr ?_; (case ho => rfl); (case hg => rfl); (case hn => rfl); (case hr => first | (go_simp; done)); intro w14 hw; have hg : wr.grownBy w14 (some go12) := (by rw [hw]; exact HP13.2); have hp_ : Kd.R Kd.bool 4 w14 w.heap.size (fun _ => True) (.slice (some ⟨go12, 0, none⟩) x5_1.length co8) y246 := (by rw [hw, Ny246.out]; exact HP13.1); clear HP13; replace BK242 := Aside0.mk (blk_grown (g := gb242) (o := .cells #[.slice A0_0 l0_0.length c0_0, .slice A0_1 l0_1.length c0_1] 60 (0, 0)) BK242.out hg (Kd.R_ne HO_5.out BK242.out (by decide))); replace HO_5 := Aside0.mk hp_; replace HB := Aside0.mk ((by rw [hw]; exact below_set (HB.out) GB12.out : Below w.heap.size w w14)); clear hg hw hp_))
        go_loopg [7] k1 (fun kq v7 w' => ∃ (x5_2 : List Bool) (x7_2 : Int), v7 = .int .i64 x7_2 ∧ Aside0 (impl_star.l1 kq x5_2 x12_1 x7_2 (y243.length : Int) x12_1 l0_0 l0_1 = some r) ∧ Aside0 (kq ≤ k1) ∧ Aside0 (Kd.R Kd.bool 4 w' w.heap.size (fun _ => True) (.slice (some ⟨go12, 0, none⟩) x5_1.length co8) x5_2) ∧ Aside0 (w'.heap[gb242]? = some (.cells #[(.slice A0_0 l0_0.length c0_0), (.slice A0_1 l0_1.length c0_1)] 60 (0, 0))) ∧ Aside0 (Below w.heap.size w w'))
        case atStart => exact ⟨(y246), (1), (by rfl), H', ⟨Nat.le_refl _⟩, ⟨by exact HO_5.out⟩, ⟨by exact BK242.out⟩, ⟨HB.out⟩⟩
        case round =>
         clear H'
         try clear c9b0
         try clear c10b0
         try clear c11b0
         try clear p12
         try clear q12
         try clear hx12_0
         obtain ⟨x5_2, x7_2, rfl, HA, HK2, HO_5, BK242, HB⟩ := hrel
         have hl5_2 := (Kd.R_reads' HO_5.out).1
         rw [hl5_2] at HO_5
         (try simp only [hl5_2])
         cases gk with
         | zero => exact absurd HA.out (by simp [impl_star.l1])
         | succ k2 =>
          have H := HA.out
          clear HA
          simp only [impl_star.l1] at H
          by_cases c15 : x7_2 ≤ x12_1
          ·rw [if_pos c15] at H
           have c15b0 : decide (x7_2 ≤ x12_1) = true := decide_eq_true c15
           clear c15
           by_cases c16 : 0 ≤ x12_1
           ·rw [if_pos c16] at H
            have c16b0 : decide (0 ≤ x12_1) = true := decide_eq_true c16
            clear c16
            by_cases c17 : x12_1 < (x5_2.length : Int)
            ·rw [if_pos c17] at H
             have c17b0 : decide (x12_1 < (x5_2.length : Int)) = true := decide_eq_true c17
             have c17b0z := c17b0
             clear c17
             obtain ⟨bq18, hbq18⟩ : ∃ b_ : Bool, b_ = (rdOf false x5_2 x12_1) := ⟨_, rfl⟩
             replace H : (if bq18 = true then (impl_star.l0 k2 x5_2 (y243.length : Int) (wrap64 (x12_1 + 1)) l0_0 l0_1) else ((impl_set_has.f l0_0 l0_1 x7_2).bind fun t248 => (if t248 = true then (if 0 ≤ (wrap64 (x12_1 - x7_2)) then (if (wrap64 (x12_1 - x7_2)) < (x5_2.length : Int) then (impl_star.l1 k2 (x5_2.set (x12_1 : Int).toNat (rdOf false x5_2 (wrap64 (x12_1 - x7_2)))) x12_1 (wrap64 (x7_2 + 1)) (y243.length : Int) x12_1 l0_0 l0_1) else (none)) else (none)) else (impl_star.l1 k2 (x5_2.set (x12_1 : Int).toNat false) x12_1 (wrap64 (x7_2 + 1)) (y243.length : Int) x12_1 l0_0 l0_1)))) = some r := by rw [← hbq18] at H; exact H
             have Nbq18 := Aside0.mk hbq18
             clear hbq18
             by_cases c19 : bq18 = true
             ·subst c19
              replace H : (impl_star.l0 k2 x5_2 (y243.length : Int) (wrap64 (x12_1 + 1)) l0_0 l0_1) = some r := by rw [if_pos rfl] at H; exact H
              have H' := Aside0.mk H
              clear H
              have p247 : 0 ≤ (x12_1 : Int) := of_decide_eq_true (by (with_reducible assumption))
              have q247 : x12_1 < (x5_2.length : Int) := of_decide_eq_true (by (with_reducible assumption))
              obtain ⟨ad247, e247, hx247_0⟩ := Kd.at_bool (Kd.R_reads' HO_5.out).2.2 x12_1 p247 q247
              (try rw [← Nbq18.out] at hx247_0)
              obtain rfl : (⟨go12, 0, none⟩ : Addr) = ad247 := (by injection e247)
              (simp only [add_plain] at hx247_0)
              replace p247 := eq_true p247
              replace q247 := eq_true q247
              go_wp2
              (try simp only [← hl5_1, ← hl5_2])
              go_roundg k2
              case measure => have := HK1.out; have := HK2.out; omega
              case rel => exact ⟨(x5_2), (wrap64 (x12_1 + 1)), (by rfl), H', ⟨by have := HK1.out; have := HK2.out; omega⟩, ⟨by (try simp only [hl5_1]); (try simp only [hl5_2]); exact HO_5.out⟩, ⟨by exact BK242.out⟩, ⟨HB.out⟩⟩
             ·replace c19 := Bool.eq_false_iff.mpr c19
              subst c19
              replace H : ((impl_set_has.f l0_0 l0_1 x7_2).bind fun t248 => (if t248 = true then (if 0 ≤ (wrap64 (x12_1 - x7_2)) then (if (wrap64 (x12_1 - x7_2)) < (x5_2.length : Int) then (impl_star.l1 k2 (x5_2.set (x12_1 : Int).toNat (rdOf false x5_2 (wrap64 (x12_1 - x7_2)))) x12_1 (wrap64 (x7_2 + 1)) (y243.length : Int) x12_1 l0_0 l0_1) else (none)) else (none)) else (impl_star.l1 k2 (x5_2.set (x12_1 : Int).toNat false) x12_1 (wrap64 (x7_2 + 1)) (y243.length : Int) x12_1 l0_0 l0_1))) = some r := by rw [if_neg (show ¬ (false = true) by decide)] at H; exact H
              replace H := Option.bind_eq_some_iff.mp H
              obtain ⟨t248, A200, H⟩ := H
              replace H : (if t248 = true then (if 0 ≤ (wrap64 (x12_1 - x7_2)) then (if (wrap64 (x12_1 - x7_2)) < (x5_2.length : Int) then (impl_star.l1 k2 (x5_2.set (x12_1 : Int).toNat (rdOf false x5_2 (wrap64 (x12_1 - x7_2)))) x12_1 (wrap64 (x7_2 + 1)) (y243.length : Int) x12_1 l0_0 l0_1) else (none)) else (none)) else (impl_star.l1 k2 (x5_2.set (x12_1 : Int).toNat false) x12_1 (wrap64 (x7_2 + 1)) (y243.length : Int) x12_1 l0_0 l0_1)) = some r := H
              have A20 := Aside0.mk A200
              clear A200
              by_cases c21 : t248 = true
              ·subst c21
               replace H : (if 0 ≤ (wrap64 (x12_1 - x7_2)) then (if (wrap64 (x12_1 - x7_2)) < (x5_2.length : Int) then (impl_star.l1 k2 (x5_2.set (x12_1 : Int).toNat (rdOf false x5_2 (wrap64 (x12_1 - x7_2)))) x12_1 (wrap64 (x7_2 + 1)) (y243.length : Int) x12_1 l0_0 l0_1) else (none)) else (none)) = some r := by rw [if_pos rfl] at H; exact H
               obtain ⟨ji22, hji22⟩ : ∃ j_ : Int, (wrap64 (x12_1 - x7_2)) = j_ := ⟨_, rfl⟩
               replace H : (if 0 ≤ (ji22) then (if (ji22) < (x5_2.length : Int) then (impl_star.l1 k2 (x5_2.set (x12_1 : Int).toNat (rdOf false x5_2 (ji22))) x12_1 (wrap64 (x7_2 + 1)) (y243.length : Int) x12_1 l0_0 l0_1) else (none)) else (none)) = some r := by first | (rw [hji22] at H; exact H)
               have hji22w : (IntKind.i64.wrap (x12_1 - x7_2)) = ji22 := (i64_w _).trans hji22
               by_cases c23 : 0 ≤ (ji22)
               ·rw [if_pos c23] at H
                have c23b0 : decide (0 ≤ (ji22)) = true := decide_eq_true c23
                clear c23
                by_cases c24 : (ji22) < (x5_2.length : Int)
                ·rw [if_pos c24] at H
                 have c24b0 : decide ((ji22) < (x5_2.length : Int)) = true := decide_eq_true c24
                 have c24b0z := c24b0
                 clear c24
                 obtain ⟨y250, hy250⟩ : ∃ y_ : List Bool, y_ = (x5_2.set (x12_1 : Int).toNat (rdOf false x5_2 (ji22))) := ⟨_, rfl⟩
                 replace H : (impl_star.l1 k2 y250 x12_1 (wrap64 (x7_2 + 1)) (y243.length : Int) x12_1 l0_0 l0_1) = some r := by first | (rw [hy250]; with_reducible exact H)
                 have Ny250 := Aside0.mk hy250
                 clear hy250
                 have H' := Aside0.mk H
                 clear H
                 have p247 : 0 ≤ (x12_1 : Int) := of_decide_eq_true (by (with_reducible assumption))
                 have q247 : x12_1 < (x5_2.length : Int) := of_decide_eq_true (by (with_reducible assumption))
                 obtain ⟨ad247, e247, hx247_0⟩ := Kd.at_bool (Kd.R_reads' HO_5.out).2.2 x12_1 p247 q247
                 (try rw [← Nbq18.out] at hx247_0)
                 obtain rfl : (⟨go12, 0, none⟩ : Addr) = ad247 := (by injection e247)
                 (simp only [add_plain] at hx247_0)
                 replace p247 := eq_true p247
                 replace q247 := eq_true q247
                 have hcz26_0 : wr.cell? ⟨gb242, 0, none⟩ = some (.slice A0_0 l0_0.length c0_0) := (blk_cell BK242.out 0).trans rfl
                 have hcz26_1 : wr.cell? ⟨gb242, 1, none⟩ = some (.slice A0_1 l0_1.length c0_1) := (blk_cell BK242.out 1).trans rfl
                 have hfz26_0 := blk_frozen BK242.out 0
                 have hfz26_1 := blk_frozen BK242.out 1
                 go_wp2_with (first | ((with_reducible refine gate_callee (f := 61) rfl ?_); refine goesL_ (some 36) rfl rfl Try.func61 (by kernel_rfl) rfl #[.agg #[.slice A0_0 l0_0.length c0_0, .slice A0_1 l0_1.length c0_1], .int .i64 x7_2] rfl (by (try simp only [List.map_toArray, List.map_cons, List.map_nil]); rfl) ?_; (with_reducible refine (impl_set_has.calls _ _ l0_0 _ _ l0_1 x7_2 true _ ?side1 ?side2 ?side3 ?side4 A20.out).mono ?_); (case side1 => repeat (exact (Kd.C_below HR0_0.out HB.out))); (case side2 => exact HC0_0.out); (case side3 => repeat (exact (Kd.C_below HR0_1.out HB.out))); (case side4 => exact HC0_1.out); rintro e w27 ⟨rfl, hb⟩; refine ⟨_, rfl, ?_⟩; replace HO_5 := Aside0.mk (Kd.R_below HO_5.out hb); replace BK242 := Aside0.mk (blk_below (g := gb242) (o := .cells #[.slice A0_0 l0_0.length c0_0, .slice A0_1 l0_1.length c0_1] 60 (0, 0)) BK242.out hb); replace HB := Aside0.mk (below_step HB.out hb); (try clear hb); have p249 : 0 ≤ ((ji22) : Int) := of_decide_eq_true (by (with_reducible assumption)); have q249 : (ji22) < (x5_2.length : Int) := of_decide_eq_true (by (with_reducible assumption)); obtain ⟨ad249, e249, hx249_0⟩ := Kd.at_bool (Kd.R_reads' HO_5.out).2.2 (ji22) p249 q249; obtain rfl : (⟨go12, 0, none⟩ : Addr) = ad249 := (by injection e249); (simp only [add_plain] at hx249_0); replace p249 := eq_true p249; replace q249 := eq_true q249; have p25 : 0 ≤ (x12_1 : Int) := of_decide_eq_true (by (with_reducible assumption)); have q25 : (x12_1 : Int) < ((x5_2.length : Int) : Int) := of_decide_eq_true (by (with_reducible assumption)); obtain ⟨hx25_0, hf25_0⟩ := Kd.R_celln false HO_5.out (x12_1 : Int) p25 q25; replace p25 := eq_true p25; replace q25 := eq_true q25; obtain ⟨hy28_, hz28_⟩ := Kd.R_celln false HO_5.out (x12_1 : Int) (of_decide_eq_true (by (with_reducible assumption))) (of_decide_eq_true (by (with_reducible assumption))); have HP28 := Kd.R_putg HO_5.out (x12_1 : Int) (rdOf false x5_2 (ji22))) | ((with_reducible refine gate_store (t := 4) (p := 45) rfl ?_); refine store_event (t := 4) (p := 45) (v := ?vo_w29) (w1 := (w27.setCell ⟨go12, (x12_1 : Int).toNat, none⟩ (.bool (rdOf false x5_2 (ji22))))) ?hg ?ho ?hn ?hr ?_; (case ho => rfl); (case hg => rfl); (case hn => rfl); (case hr => first | (go_simp; done)); intro w29 hw; have hg : w27.grownBy w29 (some go12) := (by rw [hw]; exact HP28.2); have hp_ : Kd.R Kd.bool 4 w29 w.heap.size (fun _ => True) (.slice (some ⟨go12, 0, none⟩) x5_2.length co8) y250 := (by rw [hw, Ny250.out]; exact HP28.1); clear HP28; replace BK242 := Aside0.mk (blk_grown (g := gb242) (o := .cells #[.slice A0_0 l0_0.length c0_0, .slice A0_1 l0_1.length c0_1] 60 (0, 0)) BK242.out hg (Kd.R_ne HO_5.out BK242.out (by decide))); replace HO_5 := Aside0.mk hp_; replace HB := Aside0.mk ((by rw [hw]; exact below_set (HB.out) GB12.out : Below w.heap.size w w29)); clear hg hw hp_))
                 (try simp only [← hl5_2])
                 go_roundg k2
                 case measure => have := HK1.out; have := HK2.out; omega
                 case rel => exact ⟨(y250), (wrap64 (x7_2 + 1)), (by rfl), H', ⟨by have := HK1.out; have := HK2.out; omega⟩, ⟨by (try simp only [hl5_2]); exact HO_5.out⟩, ⟨by exact BK242.out⟩, ⟨HB.out⟩⟩
                ·rw [if_neg c24] at H
                 exact absurd H (by simp)
               ·rw [if_neg c23] at H
                exact absurd H (by simp)
              ·replace c21 := Bool.eq_false_iff.mpr c21
               subst c21
               replace H : (impl_star.l1 k2 (x5_2.set (x12_1 : Int).toNat false) x12_1 (wrap64 (x7_2 + 1)) (y243.length : Int) x12_1 l0_0 l0_1) = some r := by rw [if_neg (show ¬ (false = true) by decide)] at H; exact H
               obtain ⟨y251, hy251⟩ : ∃ y_ : List Bool, y_ = (x5_2.set (x12_1 : Int).toNat false) := ⟨_, rfl⟩
               replace H : (impl_star.l1 k2 y251 x12_1 (wrap64 (x7_2 + 1)) (y243.length : Int) x12_1 l0_0 l0_1) = some r := by first | (rw [hy251]; with_reducible exact H)
               have Ny251 := Aside0.mk hy251
               clear hy251
               have H' := Aside0.mk H
               clear H
               have p247 : 0 ≤ (x12_1 : Int) := of_decide_eq_true (by (with_reducible assumption))
               have q247 : x12_1 < (x5_2.length : Int) := of_decide_eq_true (by (with_reducible assumption))
               obtain ⟨ad247, e247, hx247_0⟩ := Kd.at_bool (Kd.R_reads' HO_5.out).2.2 x12_1 p247 q247
               (try rw [← Nbq18.out] at hx247_0)
               obtain rfl : (⟨go12, 0, none⟩ : Addr) = ad247 := (by injection e247)
               (simp only [add_plain] at hx247_0)
               replace p247 := eq_true p247
               replace q247 := eq_true q247
               have hcz31_0 : wr.cell? ⟨gb242, 0, none⟩ = some (.slice A0_0 l0_0.length c0_0) := (blk_cell BK242.out 0).trans rfl
               have hcz31_1 : wr.cell? ⟨gb242, 1, none⟩ = some (.slice A0_1 l0_1.length c0_1) := (blk_cell BK242.out 1).trans rfl
               have hfz31_0 := blk_frozen BK242.out 0
               have hfz31_1 := blk_frozen BK242.out 1
               go_wp2_with (first | ((with_reducible refine gate_callee (f := 61) rfl ?_); refine goesL_ (some 36) rfl rfl Try.func61 (by kernel_rfl) rfl #[.agg #[.slice A0_0 l0_0.length c0_0, .slice A0_1 l0_1.length c0_1], .int .i64 x7_2] rfl (by (try simp only [List.map_toArray, List.map_cons, List.map_nil]); rfl) ?_; (with_reducible refine (impl_set_has.calls _ _ l0_0 _ _ l0_1 x7_2 false _ ?side1 ?side2 ?side3 ?side4 A20.out).mono ?_); (case side1 => repeat (exact (Kd.C_below HR0_0.out HB.out))); (case side2 => exact HC0_0.out); (case side3 => repeat (exact (Kd.C_below HR0_1.out HB.out))); (case side4 => exact HC0_1.out); rintro e w32 ⟨rfl, hb⟩; refine ⟨_, rfl, ?_⟩; replace HO_5 := Aside0.mk (Kd.R_below HO_5.out hb); replace BK242 := Aside0.mk (blk_below (g := gb242) (o := .cells #[.slice A0_0 l0_0.length c0_0, .slice A0_1 l0_1.length c0_1] 60 (0, 0)) BK242.out hb); replace HB := Aside0.mk (below_step HB.out hb); (try clear hb); have p30 : 0 ≤ (x12_1 : Int) := of_decide_eq_true (by (with_reducible assumption)); have q30 : (x12_1 : Int) < ((x5_2.length : Int) : Int) := of_decide_eq_true (by (with_reducible assumption)); obtain ⟨hx30_0, hf30_0⟩ := Kd.R_celln false HO_5.out (x12_1 : Int) p30 q30; replace p30 := eq_true p30; replace q30 := eq_true q30; obtain ⟨hy33_, hz33_⟩ := Kd.R_celln false HO_5.out (x12_1 : Int) (of_decide_eq_true (by (with_reducible assumption))) (of_decide_eq_true (by (with_reducible assumption))); have HP33 := Kd.R_putg HO_5.out (x12_1 : Int) false) | ((with_reducible refine gate_store (t := 4) (p := 45) rfl ?_); refine store_event (t := 4) (p := 45) (v := ?vo_w34) (w1 := (w32.setCell ⟨go12, (x12_1 : Int).toNat, none⟩ (.bool false))) ?hg ?ho ?hn ?hr ?_; (case ho => rfl); (case hg => rfl); (case hn => rfl); (case hr => first | (go_simp; done)); intro w34 hw; have hg : w32.grownBy w34 (some go12) := (by rw [hw]; exact HP33.2); have hp_ : Kd.R Kd.bool 4 w34 w.heap.size (fun _ => True) (.slice (some ⟨go12, 0, none⟩) x5_2.length co8) y251 := (by rw [hw, Ny251.out]; exact HP33.1); clear HP33; replace BK242 := Aside0.mk (blk_grown (g := gb242) (o := .cells #[.slice A0_0 l0_0.length c0_0, .slice A0_1 l0_1.length c0_1] 60 (0, 0)) BK242.out hg (Kd.R_ne HO_5.out BK242.out (by decide))); replace HO_5 := Aside0.mk hp_; replace HB := Aside0.mk ((by rw [hw]; exact below_set (HB.out) GB12.out : Below w.heap.size w w34)); clear hg hw hp_))
               (try simp only [← hl5_2])
               go_roundg k2
               case measure => have := HK1.out; have := HK2.out; omega
               case rel => exact ⟨(y251), (wrap64 (x7_2 + 1)), (by rfl), H', ⟨by have := HK1.out; have := HK2.out; omega⟩, ⟨by (try simp only [hl5_2]); exact HO_5.out⟩, ⟨by exact BK242.out⟩, ⟨HB.out⟩⟩
            ·rw [if_neg c17] at H
             exact absurd H (by simp)
           ·rw [if_neg c16] at H
            exact absurd H (by simp)
          ·rw [if_neg c15] at H
           have c15b0 : decide (x7_2 ≤ x12_1) = false := decide_eq_false c15
           clear c15
           have H' := Aside0.mk H
           clear H
           go_wp2
           (try simp only [← hl5_1, ← hl5_2])
           go_roundg k2
           case measure => have := HK1.out; have := HK2.out; omega
           case rel => exact ⟨(x5_2), (wrap64 (x12_1 + 1)), (by rfl), H', ⟨by have := HK1.out; have := HK2.out; omega⟩, ⟨by (try simp only [hl5_1]); (try simp only [hl5_2]); exact HO_5.out⟩, ⟨by exact BK242.out⟩, ⟨HB.out⟩⟩
       ·rw [if_neg c11] at H
        exact absurd H (by simp)
      ·rw [if_neg c10] at H
       exact absurd H (by simp)
     ·rw [if_neg c9] at H
      have c9b0 : decide (x12_1 < (y243.length : Int)) = false := decide_eq_false c9
      have c9b0z := c9b0
      (try simp only [hl5_1] at c9b0z)
      clear c9
      obtain rfl := Option.some.inj H
      go_wp2
      go_ret
      exact ⟨_, by first | rfl | (simp [*, errW_none, errW_some] <;> rfl), by exact HO_5.out, HB.out⟩
  ·rw [if_neg c4] at H
   exact absurd H (by simp)
 ·rw [if_neg c3] at H
  exact absurd H (by simp)

end Go.Proofs.Ytpkpgdlbgcjloaa.Q

namespace Go.Proofs.Ytpkpgdlbgcjloaa.Q
open Go.RowKit Go.Proofs.YtpkpgdlbgcjloaaW.PrintWords Go.Proofs.YtpkpgdlbgcjloaaW.PrintLast Go.Proofs.YtpkpgdlbgcjloaaW.PrintMore
attribute [local go_sem] max2_int min2_int max_two min_two max_three min_three max_four min_four   -- for this text's walks alone
set_option linter.unusedVariables false
set_option linter.unusedSimpArgs false

end Go.Proofs.Ytpkpgdlbgcjloaa.Q

namespace Go.Proofs.Ytpkpgdlbgcjloaa.Q
open Go.RowKit Go.Proofs.YtpkpgdlbgcjloaaW.PrintWords Go.Proofs.YtpkpgdlbgcjloaaW.PrintLast Go.Proofs.YtpkpgdlbgcjloaaW.PrintMore
attribute [local go_sem] max2_int min2_int max_two min_two max_three min_three max_four min_four   -- for this text's walks alone
set_option linter.unusedVariables false
set_option linter.unusedSimpArgs false

end Go.Proofs.Ytpkpgdlbgcjloaa.Q

namespace Go.Proofs.Ytpkpgdlbgcjloaa.Q
open Go.RowKit Go.Proofs.YtpkpgdlbgcjloaaW.PrintWords Go.Proofs.YtpkpgdlbgcjloaaW.PrintLast Go.Proofs.YtpkpgdlbgcjloaaW.PrintMore
attribute [local go_sem] max2_int min2_int max_two min_two max_three min_three max_four min_four   -- for this text's walks alone
set_option linter.unusedVariables false
set_option linter.unusedSimpArgs false

end Go.Proofs.Ytpkpgdlbgcjloaa.Q

namespace Go.Proofs.Ytpkpgdlbgcjloaa.Q
open Go.RowKit Go.Proofs.YtpkpgdlbgcjloaaW.PrintWords Go.Proofs.YtpkpgdlbgcjloaaW.PrintLast Go.Proofs.YtpkpgdlbgcjloaaW.PrintMore
attribute [local go_sem] max2_int min2_int max_two min_two max_three min_three max_four min_four   -- for this text's walks alone
set_option linter.unusedVariables false
set_option linter.unusedSimpArgs false

end Go.Proofs.Ytpkpgdlbgcjloaa.Q

namespace Go.Proofs.Ytpkpgdlbgcjloaa.Q
open Go.RowKit Go.Proofs.YtpkpgdlbgcjloaaW.PrintWords Go.Proofs.YtpkpgdlbgcjloaaW.PrintLast Go.Proofs.YtpkpgdlbgcjloaaW.PrintMore
attribute [local go_sem] max2_int min2_int max_two min_two max_three min_three max_four min_four   -- for this text's walks alone
set_option linter.unusedVariables false
set_option linter.unusedSimpArgs false

end Go.Proofs.Ytpkpgdlbgcjloaa.Q

namespace Go.Proofs.Ytpkpgdlbgcjloaa.Q
open Go.RowKit Go.Proofs.YtpkpgdlbgcjloaaW.PrintWords Go.Proofs.YtpkpgdlbgcjloaaW.PrintLast Go.Proofs.YtpkpgdlbgcjloaaW.PrintMore
attribute [local go_sem] max2_int min2_int max_two min_two max_three min_three max_four min_four   -- for this text's walks alone
set_option linter.unusedVariables false
set_option linter.unusedSimpArgs false

end Go.Proofs.Ytpkpgdlbgcjloaa.Q

namespace Go.Proofs.Ytpkpgdlbgcjloaa.Q
open Go.RowKit Go.Proofs.YtpkpgdlbgcjloaaW.PrintWords Go.Proofs.YtpkpgdlbgcjloaaW.PrintLast Go.Proofs.YtpkpgdlbgcjloaaW.PrintMore
attribute [local go_sem] max2_int min2_int max_two min_two max_three min_three max_four min_four   -- for this text's walks alone
set_option linter.unusedVariables false
set_option linter.unusedSimpArgs false

end Go.Proofs.Ytpkpgdlbgcjloaa.Q

namespace Go.Proofs.Ytpkpgdlbgcjloaa.Q
open Go.RowKit Go.Proofs.YtpkpgdlbgcjloaaW.PrintWords Go.Proofs.YtpkpgdlbgcjloaaW.PrintLast Go.Proofs.YtpkpgdlbgcjloaaW.PrintMore
attribute [local go_sem] max2_int min2_int max_two min_two max_three min_three max_four min_four   -- for this text's walks alone
set_option linter.unusedVariables false
set_option linter.unusedSimpArgs false
def impl_set_least.l0 : Nat → Int → List Bool → List Bool → Option (Int)
 | 0, _, _, _ => none
 | k + 1, x3, x427000, x427001 => if x3 ≤ (wrap64 ((x427000.length : Int) + (x427001.length : Int))) then ((impl_set_has.f x427000 x427001 x3).bind fun t427 => (if t427 = true then (some x3) else (impl_set_least.l0 k (wrap64 (x3 + 1)) x427000 x427001))) else (some 0)
def impl_set_least.f (k : Nat) (l0_0 : List Bool) (l0_1 : List Bool) : Option (Int) := impl_set_least.l0 k 1 l0_0 l0_1
theorem impl_set_least.mono_l : ∀ k, (∀ y0 y1 y2, LeO (impl_set_least.l0 k y0 y1 y2) (impl_set_least.l0 (k + 1) y0 y1 y2))
 | 0 => fun _ _ _ r h => by simp [impl_set_least.l0] at h
 | k + 1 => by
  have ih0 := impl_set_least.mono_l k
  ·intro y0 y1 y2
   unfold impl_set_least.l0
   repeat' first | (with_reducible exact ih0 _ _ _) | (with_reducible exact LeO.refl _) | (with_reducible refine LeO.ite ?_ ?_) | (with_reducible refine LeO.bind ?_ (fun _ => ?_))
theorem impl_set_least.mono : ∀ a0 a1 k, LeO (impl_set_least.f k a0 a1) (impl_set_least.f (k + 1) a0 a1) := by
 intro a0 a1 k
 have ih0 := impl_set_least.mono_l k
 unfold impl_set_least.f
 repeat' (with_reducible exact ih0 _ _ _)
set_option maxHeartbeats 8000000 in
set_option maxRecDepth 100000 in
theorem impl_set_least.calls (k : Nat) (A0_0 : Option Addr) (c0_0 : Nat) (l0_0 : List Bool) (A0_1 : Option Addr) (c0_1 : Nat) (l0_1 : List Bool) (r : Int) (w : World) (hr0_0 : Kd.C Kd.bool w A0_0 l0_0.length l0_0) (hc0_0 : l0_0.length ≤ c0_0) (hr0_1 : Kd.C Kd.bool w A0_1 l0_1.length l0_1) (hc0_1 : l0_1.length ≤ c0_1) (h : impl_set_least.f k l0_0 l0_1 = some r) :
  Calls Try.prog 108 #[.agg #[.slice A0_0 l0_0.length c0_0, .slice A0_1 l0_1.length c0_1]] w fun e w' => e = .returned (.int .i64 r) ∧ Below w.heap.size w w' := by
 have hu60 := Try.underlying60
 have HR0_0 := Aside0.mk hr0_0
 have HC0_0 := Aside0.mk hc0_0
 clear hr0_0 hc0_0
 have HR0_1 := Aside0.mk hr0_1
 have HC0_1 := Aside0.mk hc0_1
 clear hr0_1 hc0_1
 have HB := Aside0.mk (Below.refl w.heap.size w)
 have H : (impl_set_least.l0 k 1 l0_0 l0_1) = some r := h
 clear h
 have H' := Aside0.mk H
 clear H
 go_enter Try.func108, Try.ntmps108
 go_wp2_with (first | ((with_reducible refine gate_dst (N := 1) rfl ?_); refine box_event ?hg (N := 1) ?hd (cs := #[.slice A0_0 l0_0.length c0_0, .slice A0_1 l0_1.length c0_1]) (t := 60) ?hr ?_; (case hd => rfl); (case hg => rfl); (case hr => first | (go_simp; done)); intro gb426 hg w2 hbox hb; have BK426 := Aside0.mk hbox; have GW426 := Aside0.mk ((by rw [hg]; exact (below_size HB.out) : w.heap.size ≤ gb426)); have GE426 := Aside0.mk ((by rw [hg]; exact (below_size HB.out) : w.heap.size ≤ gb426)); replace HB := Aside0.mk (below_step HB.out hb); clear hb hbox hg))
 go_loopg [3] k (fun kq v3 w' => ∃ (x3_1 : Int), v3 = .int .i64 x3_1 ∧ Aside0 (impl_set_least.l0 kq x3_1 l0_0 l0_1 = some r) ∧ Aside0 (kq ≤ k) ∧ Aside0 (w'.heap[gb426]? = some (.cells #[(.slice A0_0 l0_0.length c0_0), (.slice A0_1 l0_1.length c0_1)] 60 (0, 0))) ∧ Aside0 (Below w.heap.size w w'))
 case atStart => exact ⟨(1), (by rfl), H', ⟨Nat.le_refl _⟩, ⟨by exact BK426.out⟩, ⟨HB.out⟩⟩
 case round =>
  clear H'
  obtain ⟨x3_1, rfl, HA, HK1, BK426, HB⟩ := hrel
  cases gk with
  | zero => exact absurd HA.out (by simp [impl_set_least.l0])
  | succ k1 =>
   have H := HA.out
   clear HA
   simp only [impl_set_least.l0] at H
   by_cases c3 : x3_1 ≤ (wrap64 ((l0_0.length : Int) + (l0_1.length : Int)))
   ·rw [if_pos c3] at H
    have c3b0 : decide (x3_1 ≤ (wrap64 ((l0_0.length : Int) + (l0_1.length : Int)))) = true := decide_eq_true c3
    clear c3
    replace H := Option.bind_eq_some_iff.mp H
    obtain ⟨t427, A40, H⟩ := H
    replace H : (if t427 = true then (some x3_1) else (impl_set_least.l0 k1 (wrap64 (x3_1 + 1)) l0_0 l0_1)) = some r := H
    have A4 := Aside0.mk A40
    clear A40
    by_cases c5 : t427 = true
    all_goals
     first
     |replace c5 := Bool.eq_false_iff.mpr c5
     |skip
     subst c5
     first
     |replace H : (some x3_1) = some r := by rw [if_pos rfl] at H; exact H
      obtain rfl := Option.some.inj H
     |replace H : (impl_set_least.l0 k1 (wrap64 (x3_1 + 1)) l0_0 l0_1) = some r := by rw [if_neg (show ¬ (false = true) by decide)] at H; exact H
      have H' := Aside0.mk H
      clear H
     have hcz6_0 : wr.cell? ⟨gb426, 0, none⟩ = some (.slice A0_0 l0_0.length c0_0) := (blk_cell BK426.out 0).trans rfl
     have hcz6_1 : wr.cell? ⟨gb426, 1, none⟩ = some (.slice A0_1 l0_1.length c0_1) := (blk_cell BK426.out 1).trans rfl
     have hfz6_0 := blk_frozen BK426.out 0
     have hfz6_1 := blk_frozen BK426.out 1
     go_wp2_with (first | ((with_reducible refine gate_callee (f := 61) rfl ?_); refine goesL_ (some 17) rfl rfl Try.func61 (by kernel_rfl) rfl #[.agg #[.slice A0_0 l0_0.length c0_0, .slice A0_1 l0_1.length c0_1], .int .i64 x3_1] rfl (by (try simp only [List.map_toArray, List.map_cons, List.map_nil]); rfl) ?_; (with_reducible refine (impl_set_has.calls _ _ l0_0 _ _ l0_1 x3_1 _ _ ?side1 ?side2 ?side3 ?side4 A4.out).mono ?_); (case side1 => repeat (exact (Kd.C_below HR0_0.out HB.out))); (case side2 => exact HC0_0.out); (case side3 => repeat (exact (Kd.C_below HR0_1.out HB.out))); (case side4 => exact HC0_1.out); rintro e w7 ⟨rfl, hb⟩; refine ⟨_, rfl, ?_⟩; replace BK426 := Aside0.mk (blk_below (g := gb426) (o := .cells #[.slice A0_0 l0_0.length c0_0, .slice A0_1 l0_1.length c0_1] 60 (0, 0)) BK426.out hb); replace HB := Aside0.mk (below_step HB.out hb); (try clear hb)))
     first
     |go_ret
      exact ⟨by first | rfl | (simp [*, errW_none, errW_some] <;> rfl), HB.out⟩
     |go_roundg k1
      case measure => have := HK1.out; omega
      case rel => exact ⟨(wrap64 (x3_1 + 1)), (by rfl), H', ⟨by have := HK1.out; omega⟩, ⟨by exact BK426.out⟩, ⟨HB.out⟩⟩
   ·rw [if_neg c3] at H
    have c3b0 : decide (x3_1 ≤ (wrap64 ((l0_0.length : Int) + (l0_1.length : Int)))) = false := decide_eq_false c3
    clear c3
    obtain rfl := Option.some.inj H
    have hcz10_0 : wr.cell? ⟨gb426, 0, none⟩ = some (.slice A0_0 l0_0.length c0_0) := (blk_cell BK426.out 0).trans rfl
    have hcz10_1 : wr.cell? ⟨gb426, 1, none⟩ = some (.slice A0_1 l0_1.length c0_1) := (blk_cell BK426.out 1).trans rfl
    have hfz10_0 := blk_frozen BK426.out 0
    have hfz10_1 := blk_frozen BK426.out 1
    go_wp2
    go_ret
    exact ⟨by first | rfl | (simp [*, errW_none, errW_some] <;> rfl), HB.out⟩


/-- What is asked of the function that is made: of 0 z, of others the list. -/
def impl_starred.p (z : List Bool → List Bool → Option Bool) (t r l : List Bool) (n : Int) : Option Bool := if n = 0 then z t r else if 0 ≤ n then if n < l.length then some (rdOf false l n) else none else none
def impl_starred.g (k : Nat) (t r : List Bool) (z : List Bool → List Bool → Option Bool) (s : Int) : Option (ByteArray × Bool) := (impl_star.f k t r (1000 + s)).bind fun l => impl_made.f k 1000 s (impl_starred.p z t r l)
def impl_starred.f (k : Nat) (a0 : ByteArray) (z : List Bool → List Bool → Option Bool) : Option (ByteArray × Bool) :=
 (impl_small.f k a0).bind fun x => if x.2.2 = true then (impl_set_least.f k x.1 x.2.1).bind fun m => if 1 ≤ m then (if m ≤ 1000000 then impl_starred.g k x.1 x.2.1 z m else none) else impl_starred.g k x.1 x.2.1 z 1 else some (⟨#[]⟩, false)
theorem impl_starred.mono : ∀ a0 z k, LeO (impl_starred.f k a0 z) (impl_starred.f (k + 1) a0 z) := by
 intro a0 z k
 unfold impl_starred.f impl_starred.g
 repeat' first | (with_reducible exact impl_small.mono _ _) | (with_reducible exact impl_set_least.mono _ _ _) | (with_reducible exact impl_star.mono _ _ _ _) | (with_reducible exact impl_made.mono _ _ (fun _ => LeO.refl _) _ _ _) | (with_reducible exact LeO.refl _) | (with_reducible refine LeO.ite ?_ ?_) | (with_reducible refine LeO.bind ?_ (fun _ => ?_))
/-- What the function that is handed in answers. -/
def impl_starred.Zero (w : World) (g0 : Nat) (lb0 : Array Value) (z : List Bool → List Bool → Option Bool) : Prop :=
 ∀ (A0 : Option Addr) (c0 : Nat) (l0 : List Bool) (A1 : Option Addr) (c1 : Nat) (l1 : List Bool) (b : Bool) (W : World), Below w.heap.size w W → Kd.C Kd.bool W A0 l0.length l0 → l0.length ≤ c0 → Kd.C Kd.bool W A1 l1.length l1 → l1.length ≤ c1 → z l0 l1 = some b →
  Calls Try.prog g0 (#[.agg #[.slice A0 l0.length c0, .slice A1 l1.length c1]] ++ lb0) W fun e W' => e = .returned (.bool b) ∧ Below W.heap.size W W'
set_option maxHeartbeats 1000000 in
set_option maxRecDepth 100000 in
theorem impl_starred.lit (g0 : Nat) (z : List Bool → List Bool → Option Bool) (w : World) (eg0 : ∀ args w, (callFunc g0 args).run Try.prog w = .ok (.enter g0 args) w) (hz : impl_starred.Zero w g0 #[] z)
  (B1 B2 B3 : Nat) (A0 : Option Addr) (c0 : Nat) (l0 : List Bool) (A1 : Option Addr) (c1 : Nat) (l1 : List Bool) (A2 : Option Addr) (c2 : Nat) (l2 : List Bool) (n : Int) (b : Bool) (W : World) (hw : Below w.heap.size w W)
  (h1 : W.heap[B1]? = some (.cells #[.func (.func g0) #[] #[]] 81 (0, 0))) (h2 : W.heap[B2]? = some (.cells #[.slice A0 l0.length c0, .slice A1 l1.length c1] 60 (0, 0))) (h3 : W.heap[B3]? = some (.cells #[.slice A2 l2.length c2] 58 (0, 0)))
  (r0 : Kd.C Kd.bool W A0 l0.length l0) (q0 : l0.length ≤ c0) (r1 : Kd.C Kd.bool W A1 l1.length l1) (q1 : l1.length ≤ c1) (r2 : Kd.C Kd.bool W A2 l2.length l2) (h : impl_starred.p z l0 l1 l2 n = some b) :
  Calls Try.prog 109 #[.int .i64 n, .pointer (some ⟨B1, 0, none⟩), .pointer (some ⟨B2, 0, none⟩), .pointer (some ⟨B3, 0, none⟩)] W fun e W' => e = .returned (.bool b) ∧ Below W.heap.size W W' := by
 have c10 : W.cell? ⟨B1, 0, none⟩ = some (.func (.func g0) #[] #[]) := (blk_cell h1 0).trans rfl
 have c20 : W.cell? ⟨B2, 0, none⟩ = some (.slice A0 l0.length c0) := (blk_cell h2 0).trans rfl
 have c21 : W.cell? ⟨B2, 1, none⟩ = some (.slice A1 l1.length c1) := (blk_cell h2 1).trans rfl
 have c30 : W.cell? ⟨B3, 0, none⟩ = some (.slice A2 l2.length c2) := (blk_cell h3 0).trans rfl
 unfold impl_starred.p at h
 by_cases e0 : n = 0
 ·subst e0
  rw [if_pos rfl] at h
  have C := hz A0 c0 l0 A1 c1 l1 b W hw r0 q0 r1 q1 h
  simp only [Array.append_empty] at C
  clear h1 h2 h3 r0 r1 r2 q0 q1 h hz hw
  go_enter Try.func109, Try.ntmps109
  go_wp2_with (go_at_fn g0; refine C.mono ?_; rintro e w' ⟨rfl, hb⟩)
  go_ret
  exact ⟨rfl, hb⟩
 ·rw [if_neg e0] at h
  by_cases e1 : 0 ≤ n
  ·rw [if_pos e1] at h
   by_cases e2 : n < (l2.length : Int)
   ·rw [if_pos e2] at h
    obtain ⟨ad, had, hcell⟩ := (Kd.reads_of_C (d := false) r2).at_ n e1 e2
    subst had
    obtain rfl := Option.some.inj h
    have e0b : (n == 0) = false := by simpa using e0
    clear h1 h2 h3 r0 r1 r2 q0 q1 h hz hw
    go_enter Try.func109, Try.ntmps109
    go_wp2
    go_ret
    exact ⟨rfl, Below.refl _ _⟩
   ·rw [if_neg e2] at h; cases h
  ·rw [if_neg e1] at h; cases h
theorem impl_starred.set2 {w : World} {g T : Nat} {u v u' v' : Value} (h : w.heap[g]? = some (.cells #[u, v] T (0, 0))) : ((w.setCell ⟨g, 0, none⟩ u').setCell ⟨g, 1, none⟩ v').heap[g]? = some (.cells #[u', v'] T (0, 0)) := blk_set (blk_set h 0 u') 1 v'
theorem impl_starred.set1 {w : World} {g T : Nat} {u u' : Value} (h : w.heap[g]? = some (.cells #[u] T (0, 0))) : (w.setCell ⟨g, 0, none⟩ u').heap[g]? = some (.cells #[u'] T (0, 0)) := blk_set h 0 u'
set_option maxHeartbeats 2000000 in
set_option maxRecDepth 100000 in
theorem impl_starred.calls (k : Nat) (a0 : ByteArray) (g0 : Nat) (z : List Bool → List Bool → Option Bool) (r1 : ByteArray) (r2 : Bool) (w : World) (eg0 : ∀ args w, (callFunc g0 args).run Try.prog w = .ok (.enter g0 args) w) (hz : impl_starred.Zero w g0 #[] z) (h : impl_starred.f k a0 z = some (r1, r2)) :
  Calls Try.prog 71 #[.string a0, .func (.func g0) #[] #[]] w fun e w' => e = .returned (.tuple #[.string r1, .bool r2]) ∧ Below w.heap.size w w' := by
 have hmf : ∀ (fn : Fn) (first cap : Array Value) (w : World), (Instr.makeFunc fn first cap).run Try.prog w = .ok (.func fn first cap) w := fun _ _ _ _ => rfl
 unfold impl_starred.f at h
 obtain ⟨⟨t, r, ok⟩, hsm, h⟩ := Option.bind_eq_some_iff.mp h
 have HZ := Aside0.mk hz; have EG := Aside0.mk eg0
 clear hz eg0
 have BZ := Lib.hid (blk_new w (.cells #[.func (.func g0) #[] #[]] 81))
 have HB0 : Aside0 (Below w.heap.size w (w.alloc (.cells #[.func (.func g0) #[] #[]] 81))) := ⟨(Below.refl _ w).alloc (Nat.le_refl _) _⟩
 cases ok with
 | false =>
  have HS := Aside0.mk hsm
  simp only [Bool.false_eq_true, if_false, Option.some.injEq, Prod.mk.injEq] at h
  obtain ⟨rfl, rfl⟩ := h
  clear hsm
  go_enter Try.func71, Try.ntmps71
  go_wp2_with (first | (go_at_call 64; refine (impl_small.calls k a0 t r false _ HS.out).mono ?_; rintro e w1 ⟨v0, v1, rfl, ho0, ho1, hb⟩; obtain ⟨A0, c0, rfl, q0, k0⟩ := Kd.R_reads ho0; obtain ⟨A1, c1, rfl, q1, k1⟩ := Kd.R_reads ho1; have HB1 := Aside0.mk (below_step HB0.out hb); clear ho0 ho1 k0 k1 q0 q1 hb) | ((with_reducible refine gate_dst (N := 6) rfl ?_); refine box_event ?hg (N := 6) ?hd (cs := #[.slice none 0 0, .slice none 0 0]) (t := 60) ?hr ?_; (case hd => rfl); (case hg => rfl); (case hr => first | (go_simp; done)); intro gb hg w2 hbox hb; have c0_ := blk_cell hbox 0; have c1_ := blk_cell hbox 1; have f0_ := blk_frozen hbox 0; have f1_ := blk_frozen hbox 1; have HB2 := Aside0.mk (below_step HB1.out hb); have GB := Aside0.mk (show w.heap.size ≤ gb by rw [hg]; exact HB1.out.size); clear hg hb hbox))
  go_ret2
  exact ⟨rfl, (HB2.out.setCell (p := ⟨gb, 0, none⟩) GB.out _).setCell (p := ⟨gb, 1, none⟩) GB.out _⟩
 | true =>
  simp only [if_true] at h
  obtain ⟨m, hm, h⟩ := Option.bind_eq_some_iff.mp h
  split at h
  ·rename_i m0
   split at h
   case isFalse => cases h
   rename_i m1
   obtain ⟨l, hl, h⟩ := Option.bind_eq_some_iff.mp h
   have HS := Aside0.mk hsm; have HM := Aside0.mk hm; have HL := Aside0.mk hl; have H := Aside0.mk h
   clear hsm hm hl h
   go_enter Try.func71, Try.ntmps71
   go_wp2_with (first | (go_at_call 64; refine (impl_small.calls k a0 t r true _ HS.out).mono ?_; rintro e w1 ⟨v0, v1, rfl, ho0, ho1, hb⟩; obtain ⟨A0, c0, rfl, q0, k0⟩ := Kd.R_reads ho0; obtain ⟨A1, c1, rfl, q1, k1⟩ := Kd.R_reads ho1; have HB1 := Aside0.mk (below_step HB0.out hb); have BZ1 := Aside0.mk (blk_below BZ.out hb); have K0 := Aside0.mk k0; have K1 := Aside0.mk k1; clear ho0 ho1 k0 k1 hb) | ((with_reducible refine gate_dst (N := 6) rfl ?_); refine box_event ?hg (N := 6) ?hd (cs := #[.slice none 0 0, .slice none 0 0]) (t := 60) ?hr ?_; (case hd => rfl); (case hg => rfl); (case hr => first | (go_simp; done)); intro gb hg w2 hbox hb; have c0_ := blk_cell hbox 0; have c1_ := blk_cell hbox 1; have f0_ := blk_frozen hbox 0; have f1_ := blk_frozen hbox 1; have hbs := (hb.setCell (p := ⟨gb, 0, none⟩) (by rw [hg]; exact Nat.le_refl _) (.slice A0 t.length c0)).setCell (p := ⟨gb, 1, none⟩) (by rw [hg]; exact Nat.le_refl _) (.slice A1 r.length c1); have BK2 := Aside0.mk (impl_starred.set2 (u' := .slice A0 t.length c0) (v' := .slice A1 r.length c1) hbox); have BZ2 := Aside0.mk (blk_below BZ1.out hbs); have HB2 := Aside0.mk (below_step HB1.out hbs); have KK0 := Aside0.mk (Kd.C_below K0.out hbs); have KK1 := Aside0.mk (Kd.C_below K1.out hbs); clear hg hb hbox hbs) | (go_at_call 108; refine (impl_set_least.calls k A0 c0 t A1 c1 r m _ KK0.out q0 KK1.out q1 HM.out).mono ?_; rintro e w3 ⟨rfl, hb⟩; clear c0_ c1_ f0_ f1_; have BK3 := Aside0.mk (blk_below BK2.out hb); have BZ3 := Aside0.mk (blk_below BZ2.out hb); have HB3 := Aside0.mk (below_step HB2.out hb); have L0 := Aside0.mk (Kd.C_below KK0.out hb); have L1 := Aside0.mk (Kd.C_below KK1.out hb); have d0_ : w3.cell? ⟨gb, 0, none⟩ = some (.slice A0 t.length c0) := blk_cell BK3.out 0; have d1_ : w3.cell? ⟨gb, 1, none⟩ = some (.slice A1 r.length c1) := blk_cell BK3.out 1; clear hb) | (go_at_call 70; refine (impl_star.calls k A0 c0 t A1 c1 r (1000 + m) l _ L0.out q0 L1.out q1 HL.out).mono ?_; rintro e w4 ⟨v2, rfl, ho2, hb⟩; obtain ⟨A2, c2, rfl, q2, k2⟩ := Kd.R_reads ho2; have BK4 := Aside0.mk (blk_below BK3.out hb); have BZ4 := Aside0.mk (blk_below BZ3.out hb); have HB4 := Aside0.mk (below_step HB3.out hb); have M0 := Aside0.mk (Kd.C_below L0.out hb); have M1 := Aside0.mk (Kd.C_below L1.out hb); have M2 := Aside0.mk k2; clear d0_ d1_ ho2 k2 hb) | ((with_reducible refine gate_dst (N := 9) rfl ?_); refine box_event ?hg (N := 9) ?hd (cs := #[.slice none 0 0]) (t := 58) ?hr ?_; (case hd => rfl); (case hg => rfl); (case hr => first | (go_simp; done)); intro gc hg w5 hbox hb; have e0_ := blk_cell hbox 0; have e1_ := blk_frozen hbox 0; have hbs := hb.setCell (p := ⟨gc, 0, none⟩) (by rw [hg]; exact Nat.le_refl _) (.slice A2 l.length c2); have BL5 := Aside0.mk (impl_starred.set1 (u' := .slice A2 l.length c2) hbox); have BK5 := Aside0.mk (blk_below BK4.out hbs); have BZ5 := Aside0.mk (blk_below BZ4.out hbs); have HB5 := Aside0.mk (below_step HB4.out hbs); have N0 := Aside0.mk (Kd.C_below M0.out hbs); have N1 := Aside0.mk (Kd.C_below M1.out hbs); have N2 := Aside0.mk (Kd.C_below M2.out hbs); clear hg hb hbox hbs) | (go_at_call 79; refine (impl_made.calls k 1000 (m) (impl_starred.p z t r l) 109 #[.pointer (some ⟨w.heap.size, 0, none⟩), .pointer (some ⟨gb, 0, none⟩), .pointer (some ⟨gc, 0, none⟩)] r1 r2 _ (fun args_ w_ => enters_ Try.func109 (by kernel_rfl) rfl args_ w_) ?hpx H.out).mono ?_; (case hpx => intro n_ b_ W_ hW_ hb_; exact impl_starred.lit g0 z w EG.out HZ.out w.heap.size gb gc A0 c0 t A1 c1 r A2 c2 l n_ b_ W_ (below_step HB5.out hW_) (blk_below BZ5.out hW_) (blk_below BK5.out hW_) (blk_below BL5.out hW_) (Kd.C_below N0.out hW_) q0 (Kd.C_below N1.out hW_) q1 (Kd.C_below N2.out hW_) hb_); rintro e w6 ⟨rfl, hb⟩; have HB6 := Aside0.mk (below_step HB5.out hb); clear hb))
   go_ret2
   exact ⟨rfl, HB6.out⟩
  ·rename_i m0
   obtain ⟨l, hl, h⟩ := Option.bind_eq_some_iff.mp h
   have HS := Aside0.mk hsm; have HM := Aside0.mk hm; have HL := Aside0.mk hl; have H := Aside0.mk h
   clear hsm hm hl h
   go_enter Try.func71, Try.ntmps71
   go_wp2_with (first | (go_at_call 64; refine (impl_small.calls k a0 t r true _ HS.out).mono ?_; rintro e w1 ⟨v0, v1, rfl, ho0, ho1, hb⟩; obtain ⟨A0, c0, rfl, q0, k0⟩ := Kd.R_reads ho0; obtain ⟨A1, c1, rfl, q1, k1⟩ := Kd.R_reads ho1; have HB1 := Aside0.mk (below_step HB0.out hb); have BZ1 := Aside0.mk (blk_below BZ.out hb); have K0 := Aside0.mk k0; have K1 := Aside0.mk k1; clear ho0 ho1 k0 k1 hb) | ((with_reducible refine gate_dst (N := 6) rfl ?_); refine box_event ?hg (N := 6) ?hd (cs := #[.slice none 0 0, .slice none 0 0]) (t := 60) ?hr ?_; (case hd => rfl); (case hg => rfl); (case hr => first | (go_simp; done)); intro gb hg w2 hbox hb; have c0_ := blk_cell hbox 0; have c1_ := blk_cell hbox 1; have f0_ := blk_frozen hbox 0; have f1_ := blk_frozen hbox 1; have hbs := (hb.setCell (p := ⟨gb, 0, none⟩) (by rw [hg]; exact Nat.le_refl _) (.slice A0 t.length c0)).setCell (p := ⟨gb, 1, none⟩) (by rw [hg]; exact Nat.le_refl _) (.slice A1 r.length c1); have BK2 := Aside0.mk (impl_starred.set2 (u' := .slice A0 t.length c0) (v' := .slice A1 r.length c1) hbox); have BZ2 := Aside0.mk (blk_below BZ1.out hbs); have HB2 := Aside0.mk (below_step HB1.out hbs); have KK0 := Aside0.mk (Kd.C_below K0.out hbs); have KK1 := Aside0.mk (Kd.C_below K1.out hbs); clear hg hb hbox hbs) | (go_at_call 108; refine (impl_set_least.calls k A0 c0 t A1 c1 r m _ KK0.out q0 KK1.out q1 HM.out).mono ?_; rintro e w3 ⟨rfl, hb⟩; clear c0_ c1_ f0_ f1_; have BK3 := Aside0.mk (blk_below BK2.out hb); have BZ3 := Aside0.mk (blk_below BZ2.out hb); have HB3 := Aside0.mk (below_step HB2.out hb); have L0 := Aside0.mk (Kd.C_below KK0.out hb); have L1 := Aside0.mk (Kd.C_below KK1.out hb); have d0_ : w3.cell? ⟨gb, 0, none⟩ = some (.slice A0 t.length c0) := blk_cell BK3.out 0; have d1_ : w3.cell? ⟨gb, 1, none⟩ = some (.slice A1 r.length c1) := blk_cell BK3.out 1; clear hb) | (go_at_call 70; refine (impl_star.calls k A0 c0 t A1 c1 r (1001) l _ L0.out q0 L1.out q1 HL.out).mono ?_; rintro e w4 ⟨v2, rfl, ho2, hb⟩; obtain ⟨A2, c2, rfl, q2, k2⟩ := Kd.R_reads ho2; have BK4 := Aside0.mk (blk_below BK3.out hb); have BZ4 := Aside0.mk (blk_below BZ3.out hb); have HB4 := Aside0.mk (below_step HB3.out hb); have M0 := Aside0.mk (Kd.C_below L0.out hb); have M1 := Aside0.mk (Kd.C_below L1.out hb); have M2 := Aside0.mk k2; clear d0_ d1_ ho2 k2 hb) | ((with_reducible refine gate_dst (N := 9) rfl ?_); refine box_event ?hg (N := 9) ?hd (cs := #[.slice none 0 0]) (t := 58) ?hr ?_; (case hd => rfl); (case hg => rfl); (case hr => first | (go_simp; done)); intro gc hg w5 hbox hb; have e0_ := blk_cell hbox 0; have e1_ := blk_frozen hbox 0; have hbs := hb.setCell (p := ⟨gc, 0, none⟩) (by rw [hg]; exact Nat.le_refl _) (.slice A2 l.length c2); have BL5 := Aside0.mk (impl_starred.set1 (u' := .slice A2 l.length c2) hbox); have BK5 := Aside0.mk (blk_below BK4.out hbs); have BZ5 := Aside0.mk (blk_below BZ4.out hbs); have HB5 := Aside0.mk (below_step HB4.out hbs); have N0 := Aside0.mk (Kd.C_below M0.out hbs); have N1 := Aside0.mk (Kd.C_below M1.out hbs); have N2 := Aside0.mk (Kd.C_below M2.out hbs); clear hg hb hbox hbs) | (go_at_call 79; refine (impl_made.calls k 1000 (1) (impl_starred.p z t r l) 109 #[.pointer (some ⟨w.heap.size, 0, none⟩), .pointer (some ⟨gb, 0, none⟩), .pointer (some ⟨gc, 0, none⟩)] r1 r2 _ (fun args_ w_ => enters_ Try.func109 (by kernel_rfl) rfl args_ w_) ?hpx H.out).mono ?_; (case hpx => intro n_ b_ W_ hW_ hb_; exact impl_starred.lit g0 z w EG.out HZ.out w.heap.size gb gc A0 c0 t A1 c1 r A2 c2 l n_ b_ W_ (below_step HB5.out hW_) (blk_below BZ5.out hW_) (blk_below BK5.out hW_) (blk_below BL5.out hW_) (Kd.C_below N0.out hW_) q0 (Kd.C_below N1.out hW_) q1 (Kd.C_below N2.out hW_) hb_); rintro e w6 ⟨rfl, hb⟩; have HB6 := Aside0.mk (below_step HB5.out hb); clear hb))
   go_ret2
   exact ⟨rfl, HB6.out⟩
set_option maxHeartbeats 1000000 in
set_option maxRecDepth 100000 in
theorem impl_StarOf.zero (w : World) : impl_starred.Zero w 84 #[] (fun _ _ => some true) := by
 intro A0 c0 l0 A1 c1 l1 b W _ _ _ _ _ h
 obtain rfl := Option.some.inj h
 clear h
 go_enter Try.func84, Try.ntmps84
 go_wp2
 go_ret
 exact ⟨rfl, (Below.refl _ W).alloc (Nat.le_refl _) _⟩
end Go.Proofs.Ytpkpgdlbgcjloaa.Q

namespace Go.Proofs.Ytpkpgdlbgcjloaa.Q
open Go.RowKit Go.Proofs.YtpkpgdlbgcjloaaW.PrintWords Go.Proofs.YtpkpgdlbgcjloaaW.PrintLast Go.Proofs.YtpkpgdlbgcjloaaW.PrintMore
attribute [local go_sem] max2_int min2_int max_two min_two max_three min_three max_four min_four   -- for this text's walks alone
set_option linter.unusedVariables false
set_option linter.unusedSimpArgs false

end Go.Proofs.Ytpkpgdlbgcjloaa.Q

namespace Go.Proofs.Ytpkpgdlbgcjloaa.Q
open Go.RowKit Go.Proofs.YtpkpgdlbgcjloaaW.PrintWords Go.Proofs.YtpkpgdlbgcjloaaW.PrintLast Go.Proofs.YtpkpgdlbgcjloaaW.PrintMore
attribute [local go_sem] max2_int min2_int max_two min_two max_three min_three max_four min_four   -- for this text's walks alone
set_option linter.unusedVariables false
set_option linter.unusedSimpArgs false

end Go.Proofs.Ytpkpgdlbgcjloaa.Q

namespace Go.Proofs.Ytpkpgdlbgcjloaa.Q
open Go.RowKit Go.Proofs.YtpkpgdlbgcjloaaW.PrintWords Go.Proofs.YtpkpgdlbgcjloaaW.PrintLast Go.Proofs.YtpkpgdlbgcjloaaW.PrintMore
attribute [local go_sem] max2_int min2_int max_two min_two max_three min_three max_four min_four   -- for this text's walks alone
set_option linter.unusedVariables false
set_option linter.unusedSimpArgs false

end Go.Proofs.Ytpkpgdlbgcjloaa.Q

namespace Go.Proofs.Ytpkpgdlbgcjloaa.Q
open Go.RowKit Go.Proofs.YtpkpgdlbgcjloaaW.PrintWords Go.Proofs.YtpkpgdlbgcjloaaW.PrintLast Go.Proofs.YtpkpgdlbgcjloaaW.PrintMore
attribute [local go_sem] max2_int min2_int max_two min_two max_three min_three max_four min_four   -- for this text's walks alone
set_option linter.unusedVariables false
set_option linter.unusedSimpArgs false

end Go.Proofs.Ytpkpgdlbgcjloaa.Q

namespace Go.Proofs.Ytpkpgdlbgcjloaa.Q
open Go.RowKit Go.Proofs.YtpkpgdlbgcjloaaW.PrintWords Go.Proofs.YtpkpgdlbgcjloaaW.PrintLast Go.Proofs.YtpkpgdlbgcjloaaW.PrintMore
attribute [local go_sem] max2_int min2_int max_two min_two max_three min_three max_four min_four   -- for this text's walks alone
set_option linter.unusedVariables false
set_option linter.unusedSimpArgs false

end Go.Proofs.Ytpkpgdlbgcjloaa.Q

namespace Go.Proofs.Ytpkpgdlbgcjloaa.Q
open Go.RowKit Go.Proofs.YtpkpgdlbgcjloaaW.PrintWords Go.Proofs.YtpkpgdlbgcjloaaW.PrintLast Go.Proofs.YtpkpgdlbgcjloaaW.PrintMore
attribute [local go_sem] max2_int min2_int max_two min_two max_three min_three max_four min_four   -- for this text's walks alone
set_option linter.unusedVariables false
set_option linter.unusedSimpArgs false

end Go.Proofs.Ytpkpgdlbgcjloaa.Q

namespace Go.Proofs.Ytpkpgdlbgcjloaa.Q
open Go.RowKit Go.Proofs.YtpkpgdlbgcjloaaW.PrintWords Go.Proofs.YtpkpgdlbgcjloaaW.PrintLast Go.Proofs.YtpkpgdlbgcjloaaW.PrintMore
attribute [local go_sem] max2_int min2_int max_two min_two max_three min_three max_four min_four   -- for this text's walks alone
set_option linter.unusedVariables false
set_option linter.unusedSimpArgs false

end Go.Proofs.Ytpkpgdlbgcjloaa.Q

namespace Go.Proofs.Ytpkpgdlbgcjloaa.Q
open Go.RowKit Go.Proofs.YtpkpgdlbgcjloaaW.PrintWords Go.Proofs.YtpkpgdlbgcjloaaW.PrintLast Go.Proofs.YtpkpgdlbgcjloaaW.PrintMore
attribute [local go_sem] max2_int min2_int max_two min_two max_three min_three max_four min_four   -- for this text's walks alone
set_option linter.unusedVariables false
set_option linter.unusedSimpArgs false
def impl_both.f (k : Nat) (l0_0 : List Bool) (l0_1 : List Bool) (l1_0 : List Bool) (l1_1 : List Bool) : Option (Int × Int) := (impl_lcm.f k (l0_1.length : Int) (l1_1.length : Int)).bind fun t702 => (some (mx (l0_0.length : Int) (l1_0.length : Int), t702))
theorem impl_both.mono : ∀ a0 a1 a2 a3 k, LeO (impl_both.f k a0 a1 a2 a3) (impl_both.f (k + 1) a0 a1 a2 a3) := by
 intro a0 a1 a2 a3 k
 unfold impl_both.f
 repeat' first
   |(with_reducible exact impl_lcm.mono _ _ _)
   |(with_reducible exact LeO.refl _)
   |(with_reducible exact LeO.none _)
   |(with_reducible refine LeO.ite ?_ ?_)
   |(with_reducible refine LeO.bind ?_ (fun _ => ?_))
   |exact impl_lcm.mono _ _ _
   |exact LeO.none _
   |refine LeO.ite ?_ ?_
   |refine LeO.bind ?_ (fun _ => ?_)
set_option maxHeartbeats 8000000 in
set_option maxRecDepth 100000 in
theorem impl_both.calls (k : Nat) (A0_0 : Option Addr) (c0_0 : Nat) (l0_0 : List Bool) (A0_1 : Option Addr) (c0_1 : Nat) (l0_1 : List Bool) (A1_0 : Option Addr) (c1_0 : Nat) (l1_0 : List Bool) (A1_1 : Option Addr) (c1_1 : Nat) (l1_1 : List Bool) (r1 : Int) (r2 : Int) (w : World) (hr0_0 : Kd.C Kd.bool w A0_0 l0_0.length l0_0) (hc0_0 : l0_0.length ≤ c0_0) (hr0_1 : Kd.C Kd.bool w A0_1 l0_1.length l0_1) (hc0_1 : l0_1.length ≤ c0_1) (hr1_0 : Kd.C Kd.bool w A1_0 l1_0.length l1_0) (hc1_0 : l1_0.length ≤ c1_0) (hr1_1 : Kd.C Kd.bool w A1_1 l1_1.length l1_1) (hc1_1 : l1_1.length ≤ c1_1) (h : impl_both.f k l0_0 l0_1 l1_0 l1_1 = some (r1, r2)) :
  Calls Try.prog 68 #[.agg #[.slice A0_0 l0_0.length c0_0, .slice A0_1 l0_1.length c0_1], .agg #[.slice A1_0 l1_0.length c1_0, .slice A1_1 l1_1.length c1_1]] w fun e w' => e = .returned (.tuple #[.int .i64 r1, .int .i64 r2]) ∧ Below w.heap.size w w' := by
 have hu60 := Try.underlying60
 have HR0_0 := Aside0.mk hr0_0
 have HC0_0 := Aside0.mk hc0_0
 clear hr0_0 hc0_0
 have HR0_1 := Aside0.mk hr0_1
 have HC0_1 := Aside0.mk hc0_1
 clear hr0_1 hc0_1
 have HR1_0 := Aside0.mk hr1_0
 have HC1_0 := Aside0.mk hc1_0
 clear hr1_0 hc1_0
 have HR1_1 := Aside0.mk hr1_1
 have HC1_1 := Aside0.mk hc1_1
 clear hr1_1 hc1_1
 have HB := Aside0.mk (Below.refl w.heap.size w)
 have H : ((impl_lcm.f k (l0_1.length : Int) (l1_1.length : Int)).bind fun t702 => (some (mx (l0_0.length : Int) (l1_0.length : Int), t702))) = some (r1, r2) := h
 clear h
 obtain ⟨ji3, hji3⟩ : ∃ j_ : Int, (mx (l0_0.length : Int) (l1_0.length : Int)) = j_ := ⟨_, rfl⟩
 replace H : ((impl_lcm.f k (l0_1.length : Int) (l1_1.length : Int)).bind fun t702 => (some (ji3, t702))) = some (r1, r2) := by first | (rw [hji3] at H; exact H) | (simp only [hji3] at H ⊢; exact H)
 (try (have hji3l : 0 ≤ ji3 := by (rw [← hji3]; unfold mx; (repeat' split) <;> omega)))
 (try (have hji3m : 0 ≤ ji3 := by omega))
 have hji3_ : (if (l0_0.length : Int) < (l1_0.length : Int) then (l1_0.length : Int) else (l0_0.length : Int)) = ji3 := hji3
 have hji3n : (if l0_0.length < l1_0.length then (l1_0.length : Int) else (l0_0.length : Int)) = ji3 := by rw [← hji3_]; split <;> split <;> omega
 replace H := Option.bind_eq_some_iff.mp H
 obtain ⟨t702, A40, H⟩ := H
 replace H : (some (ji3, t702)) = some (r1, r2) := H
 have A4 := Aside0.mk A40
 clear A40
 simp only [Option.some.injEq, Prod.mk.injEq] at H
 obtain ⟨rfl, rfl⟩ := H
 go_enter Try.func68, Try.ntmps68
 go_wp2_with (first | ((with_reducible refine gate_dst (N := 2) rfl ?_); refine box_event ?hg (N := 2) ?hd (cs := #[.slice A0_0 l0_0.length c0_0, .slice A0_1 l0_1.length c0_1]) (t := 60) ?hr ?_; (case hd => rfl); (case hg => rfl); (case hr => first | (go_simp; done) | (go_simp; rfl)); intro gb700 hg w5 hbox hb; have BK700 := Aside0.mk hbox; have GW700 := Aside0.mk ((by rw [hg]; exact (below_size (by repeat (first | (with_reducible first | exact HB.out | apply below_alloc | apply pw_below_drewN | apply below_drew1) | exact HB.out))) : w.heap.size ≤ gb700)); have GE700 := Aside0.mk ((by rw [hg]; exact (below_size (by repeat (first | (with_reducible first | exact HB.out | apply below_alloc | apply pw_below_drewN | apply below_drew1) | exact HB.out))) : w.heap.size ≤ gb700)); replace HB := Aside0.mk (below_step (by repeat (first | (with_reducible first | exact HB.out | apply below_alloc | apply pw_below_drewN | apply below_drew1) | exact HB.out)) hb); clear hb hbox hg) | ((with_reducible refine gate_dst (N := 3) rfl ?_); refine box_event ?hg (N := 3) ?hd (cs := #[.slice A1_0 l1_0.length c1_0, .slice A1_1 l1_1.length c1_1]) (t := 60) ?hr ?_; (case hd => rfl); (case hg => rfl); (case hr => first | (go_simp; done) | (go_simp; rfl)); intro gb701 hg w6 hbox hb; have BK701 := Aside0.mk hbox; have GW701 := Aside0.mk ((by rw [hg]; exact (below_size (by repeat (first | (with_reducible first | exact HB.out | apply below_alloc | apply pw_below_drewN | apply below_drew1 | refine below_set ?_ GE700.out) | exact HB.out))) : w.heap.size ≤ gb701)); have GE701 := Aside0.mk ((by rw [hg]; exact (below_size (by repeat (first | (with_reducible first | exact HB.out | apply below_alloc | apply pw_below_drewN | apply below_drew1 | refine below_set ?_ GE700.out) | exact HB.out))) : w.heap.size ≤ gb701)); replace HB := Aside0.mk (below_step (by repeat (first | (with_reducible first | exact HB.out | apply below_alloc | apply pw_below_drewN | apply below_drew1 | refine below_set ?_ GE700.out) | exact HB.out)) hb); have NB700_701 := Aside0.mk ((by rw [hg]; exact Nat.ne_of_lt (blk_lt (g := gb700) (o := .cells #[.slice A0_0 l0_0.length c0_0, .slice A0_1 l0_1.length c0_1] 60 (0, 0)) (by (with_reducible repeat (first | refine blk_drewN ?_ _ | refine blk_drew ?_ | refine blk_alloc ?_ _)); exact BK700.out)) : gb700 ≠ gb701)); have NB701_700 := Aside0.mk ((by rw [hg]; exact Nat.ne_of_gt (blk_lt (g := gb700) (o := .cells #[.slice A0_0 l0_0.length c0_0, .slice A0_1 l0_1.length c0_1] 60 (0, 0)) (by (with_reducible repeat (first | refine blk_drewN ?_ _ | refine blk_drew ?_ | refine blk_alloc ?_ _)); exact BK700.out)) : gb701 ≠ gb700)); replace BK700 := Aside0.mk (blk_below (g := gb700) (o := .cells #[.slice A0_0 l0_0.length c0_0, .slice A0_1 l0_1.length c0_1] 60 (0, 0)) (by (with_reducible repeat (first | refine blk_drewN ?_ _ | refine blk_drew ?_ | refine blk_alloc ?_ _)); exact BK700.out) hb); clear hb hbox hg; have hnb7 := NB700_701.out; have hnc7 := NB701_700.out; have hcz8_0 : w6.cell? ⟨gb700, 0, none⟩ = some (.slice A0_0 l0_0.length c0_0) := (blk_cell BK700.out 0).trans rfl; have hcz8_1 : w6.cell? ⟨gb700, 1, none⟩ = some (.slice A0_1 l0_1.length c0_1) := (blk_cell BK700.out 1).trans rfl; have hfz8_0 := blk_frozen BK700.out 0; have hfz8_1 := blk_frozen BK700.out 1; have hcz9_0 : w6.cell? ⟨gb701, 0, none⟩ = some (.slice A1_0 l1_0.length c1_0) := (blk_cell BK701.out 0).trans rfl; have hcz9_1 : w6.cell? ⟨gb701, 1, none⟩ = some (.slice A1_1 l1_1.length c1_1) := (blk_cell BK701.out 1).trans rfl; have hfz9_0 := blk_frozen BK701.out 0; have hfz9_1 := blk_frozen BK701.out 1) | (go_at_call 86; (with_reducible refine (impl_lcm.calls k (l0_1.length : Int) (l1_1.length : Int) t702 _ A4.out).mono ?_); rintro e w' ⟨rfl, ⟨nd, rfl⟩⟩; (try first | exact ⟨rfl, _, World.drewN_drewN _ _ _⟩ | exact ⟨rfl, _, Eq.trans (World.drewN_drewN _ _ _) (congrArg (World.drewN _) (Nat.add_assoc _ _ _))⟩)))
 repeat (go_quiet (first | ((with_reducible refine gate_dst (N := 2) rfl ?_); refine box_event ?hg (N := 2) ?hd (cs := #[.slice A0_0 l0_0.length c0_0, .slice A0_1 l0_1.length c0_1]) (t := 60) ?hr ?_; (case hd => rfl); (case hg => rfl); (case hr => first | (go_simp; done) | (go_simp; rfl)); intro gb700 hg w5 hbox hb; have BK700 := Aside0.mk hbox; have GW700 := Aside0.mk ((by rw [hg]; exact (below_size (by repeat (first | (with_reducible first | exact HB.out | apply below_alloc | apply pw_below_drewN | apply below_drew1) | exact HB.out))) : w.heap.size ≤ gb700)); have GE700 := Aside0.mk ((by rw [hg]; exact (below_size (by repeat (first | (with_reducible first | exact HB.out | apply below_alloc | apply pw_below_drewN | apply below_drew1) | exact HB.out))) : w.heap.size ≤ gb700)); replace HB := Aside0.mk (below_step (by repeat (first | (with_reducible first | exact HB.out | apply below_alloc | apply pw_below_drewN | apply below_drew1) | exact HB.out)) hb); clear hb hbox hg) | ((with_reducible refine gate_dst (N := 3) rfl ?_); refine box_event ?hg (N := 3) ?hd (cs := #[.slice A1_0 l1_0.length c1_0, .slice A1_1 l1_1.length c1_1]) (t := 60) ?hr ?_; (case hd => rfl); (case hg => rfl); (case hr => first | (go_simp; done) | (go_simp; rfl)); intro gb701 hg w6 hbox hb; have BK701 := Aside0.mk hbox; have GW701 := Aside0.mk ((by rw [hg]; exact (below_size (by repeat (first | (with_reducible first | exact HB.out | apply below_alloc | apply pw_below_drewN | apply below_drew1 | refine below_set ?_ GE700.out) | exact HB.out))) : w.heap.size ≤ gb701)); have GE701 := Aside0.mk ((by rw [hg]; exact (below_size (by repeat (first | (with_reducible first | exact HB.out | apply below_alloc | apply pw_below_drewN | apply below_drew1 | refine below_set ?_ GE700.out) | exact HB.out))) : w.heap.size ≤ gb701)); replace HB := Aside0.mk (below_step (by repeat (first | (with_reducible first | exact HB.out | apply below_alloc | apply pw_below_drewN | apply below_drew1 | refine below_set ?_ GE700.out) | exact HB.out)) hb); have NB700_701 := Aside0.mk ((by rw [hg]; exact Nat.ne_of_lt (blk_lt (g := gb700) (o := .cells #[.slice A0_0 l0_0.length c0_0, .slice A0_1 l0_1.length c0_1] 60 (0, 0)) (by (with_reducible repeat (first | refine blk_drewN ?_ _ | refine blk_drew ?_ | refine blk_alloc ?_ _)); exact BK700.out)) : gb700 ≠ gb701)); have NB701_700 := Aside0.mk ((by rw [hg]; exact Nat.ne_of_gt (blk_lt (g := gb700) (o := .cells #[.slice A0_0 l0_0.length c0_0, .slice A0_1 l0_1.length c0_1] 60 (0, 0)) (by (with_reducible repeat (first | refine blk_drewN ?_ _ | refine blk_drew ?_ | refine blk_alloc ?_ _)); exact BK700.out)) : gb701 ≠ gb700)); replace BK700 := Aside0.mk (blk_below (g := gb700) (o := .cells #[.slice A0_0 l0_0.length c0_0, .slice A0_1 l0_1.length c0_1] 60 (0, 0)) (by (with_reducible repeat (first | refine blk_drewN ?_ _ | refine blk_drew ?_ | refine blk_alloc ?_ _)); exact BK700.out) hb); clear hb hbox hg; have hnb7 := NB700_701.out; have hnc7 := NB701_700.out; have hcz8_0 : w6.cell? ⟨gb700, 0, none⟩ = some (.slice A0_0 l0_0.length c0_0) := (blk_cell BK700.out 0).trans rfl; have hcz8_1 : w6.cell? ⟨gb700, 1, none⟩ = some (.slice A0_1 l0_1.length c0_1) := (blk_cell BK700.out 1).trans rfl; have hfz8_0 := blk_frozen BK700.out 0; have hfz8_1 := blk_frozen BK700.out 1; have hcz9_0 : w6.cell? ⟨gb701, 0, none⟩ = some (.slice A1_0 l1_0.length c1_0) := (blk_cell BK701.out 0).trans rfl; have hcz9_1 : w6.cell? ⟨gb701, 1, none⟩ = some (.slice A1_1 l1_1.length c1_1) := (blk_cell BK701.out 1).trans rfl; have hfz9_0 := blk_frozen BK701.out 0; have hfz9_1 := blk_frozen BK701.out 1) | (go_at_call 86; (with_reducible refine (impl_lcm.calls k (l0_1.length : Int) (l1_1.length : Int) t702 _ A4.out).mono ?_); rintro e w' ⟨rfl, ⟨nd, rfl⟩⟩; (try first | exact ⟨rfl, _, World.drewN_drewN _ _ _⟩ | exact ⟨rfl, _, Eq.trans (World.drewN_drewN _ _ _) (congrArg (World.drewN _) (Nat.add_assoc _ _ _))⟩))); try go_wp2_with (first | ((with_reducible refine gate_dst (N := 2) rfl ?_); refine box_event ?hg (N := 2) ?hd (cs := #[.slice A0_0 l0_0.length c0_0, .slice A0_1 l0_1.length c0_1]) (t := 60) ?hr ?_; (case hd => rfl); (case hg => rfl); (case hr => first | (go_simp; done) | (go_simp; rfl)); intro gb700 hg w5 hbox hb; have BK700 := Aside0.mk hbox; have GW700 := Aside0.mk ((by rw [hg]; exact (below_size (by repeat (first | (with_reducible first | exact HB.out | apply below_alloc | apply pw_below_drewN | apply below_drew1) | exact HB.out))) : w.heap.size ≤ gb700)); have GE700 := Aside0.mk ((by rw [hg]; exact (below_size (by repeat (first | (with_reducible first | exact HB.out | apply below_alloc | apply pw_below_drewN | apply below_drew1) | exact HB.out))) : w.heap.size ≤ gb700)); replace HB := Aside0.mk (below_step (by repeat (first | (with_reducible first | exact HB.out | apply below_alloc | apply pw_below_drewN | apply below_drew1) | exact HB.out)) hb); clear hb hbox hg) | ((with_reducible refine gate_dst (N := 3) rfl ?_); refine box_event ?hg (N := 3) ?hd (cs := #[.slice A1_0 l1_0.length c1_0, .slice A1_1 l1_1.length c1_1]) (t := 60) ?hr ?_; (case hd => rfl); (case hg => rfl); (case hr => first | (go_simp; done) | (go_simp; rfl)); intro gb701 hg w6 hbox hb; have BK701 := Aside0.mk hbox; have GW701 := Aside0.mk ((by rw [hg]; exact (below_size (by repeat (first | (with_reducible first | exact HB.out | apply below_alloc | apply pw_below_drewN | apply below_drew1 | refine below_set ?_ GE700.out) | exact HB.out))) : w.heap.size ≤ gb701)); have GE701 := Aside0.mk ((by rw [hg]; exact (below_size (by repeat (first | (with_reducible first | exact HB.out | apply below_alloc | apply pw_below_drewN | apply below_drew1 | refine below_set ?_ GE700.out) | exact HB.out))) : w.heap.size ≤ gb701)); replace HB := Aside0.mk (below_step (by repeat (first | (with_reducible first | exact HB.out | apply below_alloc | apply pw_below_drewN | apply below_drew1 | refine below_set ?_ GE700.out) | exact HB.out)) hb); have NB700_701 := Aside0.mk ((by rw [hg]; exact Nat.ne_of_lt (blk_lt (g := gb700) (o := .cells #[.slice A0_0 l0_0.length c0_0, .slice A0_1 l0_1.length c0_1] 60 (0, 0)) (by (with_reducible repeat (first | refine blk_drewN ?_ _ | refine blk_drew ?_ | refine blk_alloc ?_ _)); exact BK700.out)) : gb700 ≠ gb701)); have NB701_700 := Aside0.mk ((by rw [hg]; exact Nat.ne_of_gt (blk_lt (g := gb700) (o := .cells #[.slice A0_0 l0_0.length c0_0, .slice A0_1 l0_1.length c0_1] 60 (0, 0)) (by (with_reducible repeat (first | refine blk_drewN ?_ _ | refine blk_drew ?_ | refine blk_alloc ?_ _)); exact BK700.out)) : gb701 ≠ gb700)); replace BK700 := Aside0.mk (blk_below (g := gb700) (o := .cells #[.slice A0_0 l0_0.length c0_0, .slice A0_1 l0_1.length c0_1] 60 (0, 0)) (by (with_reducible repeat (first | refine blk_drewN ?_ _ | refine blk_drew ?_ | refine blk_alloc ?_ _)); exact BK700.out) hb); clear hb hbox hg; have hnb7 := NB700_701.out; have hnc7 := NB701_700.out; have hcz8_0 : w6.cell? ⟨gb700, 0, none⟩ = some (.slice A0_0 l0_0.length c0_0) := (blk_cell BK700.out 0).trans rfl; have hcz8_1 : w6.cell? ⟨gb700, 1, none⟩ = some (.slice A0_1 l0_1.length c0_1) := (blk_cell BK700.out 1).trans rfl; have hfz8_0 := blk_frozen BK700.out 0; have hfz8_1 := blk_frozen BK700.out 1; have hcz9_0 : w6.cell? ⟨gb701, 0, none⟩ = some (.slice A1_0 l1_0.length c1_0) := (blk_cell BK701.out 0).trans rfl; have hcz9_1 : w6.cell? ⟨gb701, 1, none⟩ = some (.slice A1_1 l1_1.length c1_1) := (blk_cell BK701.out 1).trans rfl; have hfz9_0 := blk_frozen BK701.out 0; have hfz9_1 := blk_frozen BK701.out 1) | (go_at_call 86; (with_reducible refine (impl_lcm.calls k (l0_1.length : Int) (l1_1.length : Int) t702 _ A4.out).mono ?_); rintro e w' ⟨rfl, ⟨nd, rfl⟩⟩; (try first | exact ⟨rfl, _, World.drewN_drewN _ _ _⟩ | exact ⟨rfl, _, Eq.trans (World.drewN_drewN _ _ _) (congrArg (World.drewN _) (Nat.add_assoc _ _ _))⟩))))
 go_ret2
 exact ⟨by first | rfl | (simp [errW_none, errW_some] <;> rfl) | (simp [errW_none, errW_some]; exact ⟨rfl, rfl⟩) | (simp [errW_none, errW_some]; exact ⟨rfl, rfl, rfl⟩) | (simp only [← hji3]; first | rfl | (simp [errW_none, errW_some] <;> rfl) | (simp [errW_none, errW_some]; exact ⟨rfl, rfl⟩) | (simp [errW_none, errW_some]; exact ⟨rfl, rfl, rfl⟩)) | (simp [*, errW_none, errW_some] <;> rfl), by repeat (first | (with_reducible first | exact HB.out | apply below_alloc | apply pw_below_drewN | apply below_drew1 | refine below_set ?_ GE700.out | refine below_set ?_ GE701.out) | exact HB.out)⟩

end Go.Proofs.Ytpkpgdlbgcjloaa.Q

namespace Go.Proofs.Ytpkpgdlbgcjloaa.Q
open Go.RowKit Go.Proofs.YtpkpgdlbgcjloaaW.PrintWords Go.Proofs.YtpkpgdlbgcjloaaW.PrintLast Go.Proofs.YtpkpgdlbgcjloaaW.PrintMore
attribute [local go_sem] max2_int min2_int max_two min_two max_three min_three max_four min_four   -- for this text's walks alone
set_option linter.unusedVariables false
set_option linter.unusedSimpArgs false

end Go.Proofs.Ytpkpgdlbgcjloaa.Q

namespace Go.Proofs.Ytpkpgdlbgcjloaa.Q
open Go.RowKit Go.Proofs.YtpkpgdlbgcjloaaW.PrintWords Go.Proofs.YtpkpgdlbgcjloaaW.PrintLast Go.Proofs.YtpkpgdlbgcjloaaW.PrintMore
attribute [local go_sem] max2_int min2_int max_two min_two max_three min_three max_four min_four   -- for this text's walks alone
set_option linter.unusedVariables false
set_option linter.unusedSimpArgs false
def impl_pair.p (z : Bool → Bool → Bool) (l0 l1 l2 l3 : List Bool) (n : Int) : Option Bool := (impl_set_has.f l0 l1 n).bind fun a => (impl_set_has.f l2 l3 n).bind fun b => some (z a b)
def impl_pair.f (k : Nat) (a0 a1 : ByteArray) (z : Bool → Bool → Bool) : Option (ByteArray × Bool) :=
 (impl_setOf.f a0).bind fun x => (impl_setOf.f a1).bind fun y => if x.2.2 = true then (if y.2.2 = true then (impl_both.f k x.1 x.2.1 y.1 y.2.1).bind fun q => impl_made.f k q.1 q.2 (impl_pair.p z x.1 x.2.1 y.1 y.2.1) else some (⟨#[]⟩, false)) else some (⟨#[]⟩, false)
theorem impl_pair.mono : ∀ a0 a1 z k, LeO (impl_pair.f k a0 a1 z) (impl_pair.f (k + 1) a0 a1 z) := by
 intro a0 a1 z k
 unfold impl_pair.f
 repeat' first | (with_reducible exact impl_both.mono _ _ _ _ _) | (with_reducible exact impl_made.mono _ _ (fun _ => LeO.refl _) _ _ _) | (with_reducible exact LeO.refl _) | (with_reducible refine LeO.ite ?_ ?_) | (with_reducible refine LeO.bind ?_ (fun _ => ?_))
/-- What the function that is handed in answers. -/
def impl_pair.Two (w : World) (g0 : Nat) (z : Bool → Bool → Bool) : Prop := ∀ (a b : Bool) (W : World), Below w.heap.size w W → Calls Try.prog g0 #[.bool a, .bool b] W fun e W' => e = .returned (.bool (z a b)) ∧ Below W.heap.size W W'
def impl_pair.T1 : Bool × List (List Nat × List Nat) := (true, [([], []), ([], []), ([], []), ([1, 2], [1, 2]), ([], []), ([], []), ([4, 5, 3], [4, 5]), ([0, 3, 6, 6], [0, 3, 6]), ([7, 7, 0, 1, 2, 3, 4, 5, 6, 7], [7])])
def impl_pair.B1 : List Nat := [0, 0, 0, 6, 0, 0, 62, 127, 255]
theorem impl_pair.tab1 : rtab .any (opsOf Try.f113 1) = impl_pair.T1 := by kernel_rfl
theorem impl_pair.bits1 : waitsOk impl_pair.T1.2 impl_pair.B1 = true := by kernel_rfl
theorem impl_pair.goesV_ {P : Program} {ops : Array Oper} {Q : Exit → Act → World → Prop} {oi : Oper} {N : Option Tmp} {a : Act} {w : World} {K : Act → World → Prop} {c : Operand} {g : FuncId} {lb : Array Value} (eg : ∀ args w, (callFunc g args).run P w = .ok (.enter g args) w) {ars : Array Operand} {ts : Array TypeId} (args : Array Value)
  (hw : Region.wanted oi (yielded ops a.tmps) = true) (hN : oi.dst = N) (hop : oi.op = .call { callee := .value c, args := ars, argTypes := ts }) (hc : a.eval c = .func (.func g) #[] lb) (hargs : ars.map a.eval = args)
  (h : Calls P g (args ++ lb) w fun e w' => ∃ v, e = .returned v ∧ K (a.put N v) w') : if Region.wanted oi (yielded ops a.tmps) = true then Oper.wp P oi a w K Q else K (a.put N undef) w := by
 refine call_ g (args ++ lb) hw hN ?_ h
 have he := eg (args ++ lb) w
 unfold execOp
 simp [hop, hc, resolve, Deferred.ofValue, invoke, hargs, he]
set_option maxHeartbeats 2000000 in
set_option maxRecDepth 100000 in
theorem impl_pair.lit (g0 : Nat) (z : Bool → Bool → Bool) (w : World) (eg0 : ∀ args w, (callFunc g0 args).run Try.prog w = .ok (.enter g0 args) w) (hz : impl_pair.Two w g0 z)
  (B1 B2 B3 : Nat) (A0 : Option Addr) (c0 : Nat) (l0 : List Bool) (A1 : Option Addr) (c1 : Nat) (l1 : List Bool) (A2 : Option Addr) (c2 : Nat) (l2 : List Bool) (A3 : Option Addr) (c3 : Nat) (l3 : List Bool) (n : Int) (b : Bool) (W : World) (hw : Below w.heap.size w W)
  (h1 : W.heap[B1]? = some (.cells #[.func (.func g0) #[] #[]] 90 (0, 0))) (h2 : W.heap[B2]? = some (.cells #[.slice A0 l0.length c0, .slice A1 l1.length c1] 60 (0, 0))) (h3 : W.heap[B3]? = some (.cells #[.slice A2 l2.length c2, .slice A3 l3.length c3] 60 (0, 0)))
  (r0 : Kd.C Kd.bool W A0 l0.length l0) (q0 : l0.length ≤ c0) (r1 : Kd.C Kd.bool W A1 l1.length l1) (q1 : l1.length ≤ c1) (r2 : Kd.C Kd.bool W A2 l2.length l2) (q2 : l2.length ≤ c2) (r3 : Kd.C Kd.bool W A3 l3.length l3) (q3 : l3.length ≤ c3) (h : impl_pair.p z l0 l1 l2 l3 n = some b) :
  Calls Try.prog 113 #[.int .i64 n, .pointer (some ⟨B1, 0, none⟩), .pointer (some ⟨B2, 0, none⟩), .pointer (some ⟨B3, 0, none⟩)] W fun e W' => e = .returned (.bool b) ∧ Below W.heap.size W W' := by
 unfold impl_pair.p at h
 obtain ⟨x, hx, h⟩ := Option.bind_eq_some_iff.mp h
 obtain ⟨y, hy, h⟩ := Option.bind_eq_some_iff.mp h
 obtain rfl := Option.some.inj h
 have BF := Aside0.mk h1; have BA := Aside0.mk h2; have BB := Aside0.mk h3; have K0 := Aside0.mk r0; have K1 := Aside0.mk r1; have K2 := Aside0.mk r2; have K3 := Aside0.mk r3; have HX := Aside0.mk hx; have HY := Aside0.mk hy; have HZ := Aside0.mk hz; have EG := Aside0.mk eg0
 have HW := Aside0.mk hw; have HB := Aside0.mk (Below.refl W.heap.size W)
 clear h1 h2 h3 r0 r1 r2 r3 hx hy hz eg0 hw h
 go_enter Try.func113, Try.ntmps113
 go_wp2
 have d0_ := Aside0.mk (blk_drew BF.out); have d1_ := Aside0.mk (blk_drew BA.out); have d2_ := Aside0.mk (blk_drew BB.out); have d3_ := Aside0.mk (Kd.C_drew K0.out); have d4_ := Aside0.mk (Kd.C_drew K1.out); have d5_ := Aside0.mk (Kd.C_drew K2.out); have d6_ := Aside0.mk (Kd.C_drew K3.out); have d7_ := Aside0.mk (below_drew1 HB.out); have d8_ := Aside0.mk (below_drew1 HW.out)
 clear BF BA BB K0 K1 K2 K3 HB HW
 have BF := d0_; have BA := d1_; have BB := d2_; have K0 := d3_; have K1 := d4_; have K2 := d5_; have K3 := d6_; have HB := d7_; have HW := d8_
 clear d0_ d1_ d2_ d3_ d4_ d5_ d6_ d7_ d8_
 refine start_ (n := 9) (S := fun w' => w'.cell? ⟨B1, 0, none⟩ = some (.func (.func g0) #[] #[]) ∧ w'.cell? ⟨B2, 0, none⟩ = some (.slice A0 l0.length c0) ∧ w'.cell? ⟨B2, 1, none⟩ = some (.slice A1 l1.length c1) ∧ w'.cell? ⟨B3, 0, none⟩ = some (.slice A2 l2.length c2) ∧ w'.cell? ⟨B3, 1, none⟩ = some (.slice A3 l3.length c3)) (ds := []) #[false, false, false, false, false, false, false, false, false] (by kernel_rfl) rfl rfl ⟨(blk_cell BF.out 0).trans rfl, (blk_cell BA.out 0).trans rfl, (blk_cell BA.out 1).trans rfl, (blk_cell BB.out 0).trans rfl, (blk_cell BB.out 1).trans rfl⟩ (fun hHeld => ?_); refine with_tabW impl_pair.tab1 impl_pair.bits1 (fun HT_ HW_ => ?_)
 generalize W.drew = W1 at BF BA BB K0 K1 K2 K3 HB HW hHeld ⊢
 refine pure_ (i := 2) (N := some 8) (v := ?_) (a' := ?_) #[false, false, true, false, false, false, false, false, false] rfl rfl (any_of HT_.out (by kernel_rfl)) (fun _ _ _ h => h) (Or.inl ⟨by rfl, ?_⟩) ?_ ?_
 rotate_left
 ·intro w'
  go_simp
  with_reducible rfl
 rotate_left
 ·simp only [Act.put, List.setIfInBounds_toArray, List.set_cons_zero, List.set_cons_succ, i64_w, i32_w]
  rfl
 refine pure_ (i := 5) (N := some 11) (v := ?_) (a' := ?_) #[false, false, true, false, false, true, false, false, false] rfl rfl (any_of HT_.out (by kernel_rfl)) (fun _ _ _ h => h) (Or.inl ⟨by rfl, ?_⟩) ?_ ?_
 rotate_left
 ·intro w'
  go_simp
  with_reducible rfl
 rotate_left
 ·simp only [Act.put, List.setIfInBounds_toArray, List.set_cons_zero, List.set_cons_succ, i64_w, i32_w]
  rfl
 refine take_ (i := 0) (N := some 6) (v := ?_) (a' := ?_) #[true, false, true, false, false, true, false, false, false] rfl rfl (take_ofW HT_.out HW_.out (by kernel_rfl)) (fun _ _ _ h => h) (Or.inl ⟨by rfl, ?_⟩) hHeld ?_ ?_
 rotate_left
 ·rintro w' ⟨s0, s1, s2, s3, s4⟩
  go_simp
  with_reducible rfl
 rotate_left
 ·simp only [Act.put, List.setIfInBounds_toArray, List.set_cons_zero, List.set_cons_succ, i64_w, i32_w]
  rfl
 refine take_ (i := 1) (N := some 7) (v := ?_) (a' := ?_) #[true, true, true, false, false, true, false, false, false] rfl rfl (take_ofW HT_.out HW_.out (by kernel_rfl)) (fun _ _ _ h => h) (Or.inl ⟨by rfl, ?_⟩) hHeld ?_ ?_
 rotate_left
 ·rintro w' ⟨s0, s1, s2, s3, s4⟩
  go_simp
  with_reducible rfl
 rotate_left
 ·simp only [Act.put, List.setIfInBounds_toArray, List.set_cons_zero, List.set_cons_succ, i64_w, i32_w]
  rfl
 refine take_ (i := 4) (N := some 10) (v := ?_) (a' := ?_) #[true, true, true, false, true, true, false, false, false] rfl rfl (take_ofW HT_.out HW_.out (by kernel_rfl)) (fun _ _ _ h => h) (Or.inl ⟨by rfl, ?_⟩) hHeld ?_ ?_
 rotate_left
 ·rintro w' ⟨s0, s1, s2, s3, s4⟩
  go_simp
  with_reducible rfl
 rotate_left
 ·simp only [Act.put, List.setIfInBounds_toArray, List.set_cons_zero, List.set_cons_succ, i64_w, i32_w]
  rfl
 refine one_ (i := 3) (N := some 9) #[true, true, true, true, true, true, false, false, false] rfl rfl (one_of HT_.out (by kernel_rfl)) (by decide) (fun K hK => ?_)
 refine goes_ Try.func61 (by kernel_rfl) rfl #[.agg #[.slice A0 l0.length c0, .slice A1 l1.length c1], .int .i64 n] (by rfl) rfl rfl (by (try simp only [List.map_toArray, List.map_cons, List.map_nil]); rfl) ?_
 refine (impl_set_has.calls A0 c0 l0 A1 c1 l1 n x _ K0.out q0 K1.out q1 HX.out).mono ?_
 rintro e w1 ⟨rfl, hb⟩
 refine ⟨_, rfl, ?_⟩
 replace BF := Aside0.mk (blk_below BF.out hb)
 replace BA := Aside0.mk (blk_below BA.out hb)
 replace BB := Aside0.mk (blk_below BB.out hb)
 replace K0 := Aside0.mk (Kd.C_below K0.out hb)
 replace K1 := Aside0.mk (Kd.C_below K1.out hb)
 replace K2 := Aside0.mk (Kd.C_below K2.out hb)
 replace K3 := Aside0.mk (Kd.C_below K3.out hb)
 replace HB := Aside0.mk (below_step HB.out hb)
 replace HW := Aside0.mk (below_step HW.out hb)
 clear hb
 refine hK.out _ _ ⟨(blk_cell BF.out 0).trans rfl, (blk_cell BA.out 0).trans rfl, (blk_cell BA.out 1).trans rfl, (blk_cell BB.out 0).trans rfl, (blk_cell BB.out 1).trans rfl⟩ (fun hHeld => ?_)
 clear hK K
 refine norm_ (a' := ?_) ?_ ?_
 rotate_left
 ·show Act.put _ (some 9) _ = _
  simp only [Act.put, List.setIfInBounds_toArray, List.set_cons_zero, List.set_cons_succ, i64_w, i32_w]
  rfl
 refine one_ (i := 6) (N := some 12) #[true, true, true, true, true, true, true, false, false] rfl rfl (one_of HT_.out (by kernel_rfl)) (by decide) (fun K hK => ?_)
 refine goes_ Try.func61 (by kernel_rfl) rfl #[.agg #[.slice A2 l2.length c2, .slice A3 l3.length c3], .int .i64 n] (by rfl) rfl rfl (by (try simp only [List.map_toArray, List.map_cons, List.map_nil]); rfl) ?_
 refine (impl_set_has.calls A2 c2 l2 A3 c3 l3 n y _ K2.out q2 K3.out q3 HY.out).mono ?_
 rintro e w1 ⟨rfl, hb⟩
 refine ⟨_, rfl, ?_⟩
 replace BF := Aside0.mk (blk_below BF.out hb)
 replace BA := Aside0.mk (blk_below BA.out hb)
 replace BB := Aside0.mk (blk_below BB.out hb)
 replace K0 := Aside0.mk (Kd.C_below K0.out hb)
 replace K1 := Aside0.mk (Kd.C_below K1.out hb)
 replace K2 := Aside0.mk (Kd.C_below K2.out hb)
 replace K3 := Aside0.mk (Kd.C_below K3.out hb)
 replace HB := Aside0.mk (below_step HB.out hb)
 replace HW := Aside0.mk (below_step HW.out hb)
 clear hb
 refine hK.out _ _ ⟨(blk_cell BF.out 0).trans rfl, (blk_cell BA.out 0).trans rfl, (blk_cell BA.out 1).trans rfl, (blk_cell BB.out 0).trans rfl, (blk_cell BB.out 1).trans rfl⟩ (fun hHeld => ?_)
 clear hK K
 refine norm_ (a' := ?_) ?_ ?_
 rotate_left
 ·show Act.put _ (some 12) _ = _
  simp only [Act.put, List.setIfInBounds_toArray, List.set_cons_zero, List.set_cons_succ, i64_w, i32_w]
  rfl
 refine one_ (i := 7) (N := some 13) #[true, true, true, true, true, true, true, true, false] rfl rfl (one_of HT_.out (by kernel_rfl)) (by decide) (fun K hK => ?_)
 refine impl_pair.goesV_ EG.out #[.bool x, .bool y] (by rfl) rfl rfl (by rfl) (by (try simp only [List.map_toArray, List.map_cons, List.map_nil]); rfl) ?_
 refine (HZ.out x y _ HW.out).mono ?_
 rintro e w1 ⟨rfl, hb⟩
 refine ⟨_, rfl, ?_⟩
 replace BF := Aside0.mk (blk_below BF.out hb)
 replace BA := Aside0.mk (blk_below BA.out hb)
 replace BB := Aside0.mk (blk_below BB.out hb)
 replace K0 := Aside0.mk (Kd.C_below K0.out hb)
 replace K1 := Aside0.mk (Kd.C_below K1.out hb)
 replace K2 := Aside0.mk (Kd.C_below K2.out hb)
 replace K3 := Aside0.mk (Kd.C_below K3.out hb)
 replace HB := Aside0.mk (below_step HB.out hb)
 replace HW := Aside0.mk (below_step HW.out hb)
 clear hb
 refine hK.out _ _ ⟨(blk_cell BF.out 0).trans rfl, (blk_cell BA.out 0).trans rfl, (blk_cell BA.out 1).trans rfl, (blk_cell BB.out 0).trans rfl, (blk_cell BB.out 1).trans rfl⟩ (fun hHeld => ?_)
 clear hK K
 refine norm_ (a' := ?_) ?_ ?_
 rotate_left
 ·show Act.put _ (some 13) _ = _
  simp only [Act.put, List.setIfInBounds_toArray, List.set_cons_zero, List.set_cons_succ, i64_w, i32_w]
  rfl
 refine pure_ (i := 8) (N := some 5) (v := ?_) (a' := ?_) #[true, true, true, true, true, true, true, true, true] rfl rfl (any_of HT_.out (by kernel_rfl)) (fun _ _ _ h => h) (Or.inl ⟨by rfl, ?_⟩) ?_ ?_
 rotate_left
 ·intro w'
  go_simp
  with_reducible rfl
 rotate_left
 ·simp only [Act.put, List.setIfInBounds_toArray, List.set_cons_zero, List.set_cons_succ, i64_w, i32_w]
  rfl
 refine done_ (done_of HT_.out (by kernel_rfl)) ?_
 try go_wp2
 go_ret
 exact ⟨rfl, HB.out⟩
set_option maxHeartbeats 4000000 in
set_option maxRecDepth 100000 in
theorem impl_pair.calls (k : Nat) (a0 a1 : ByteArray) (g0 : Nat) (z : Bool → Bool → Bool) (r1' : ByteArray) (r2' : Bool) (w : World) (eg0 : ∀ args w, (callFunc g0 args).run Try.prog w = .ok (.enter g0 args) w) (hz : impl_pair.Two w g0 z) (h : impl_pair.f k a0 a1 z = some (r1', r2')) :
  Calls Try.prog 82 #[.string a0, .string a1, .func (.func g0) #[] #[]] w fun e w' => e = .returned (.tuple #[.string r1', .bool r2']) ∧ Below w.heap.size w w' := by
 have hmf : ∀ (fn : Fn) (first cap : Array Value) (w : World), (Instr.makeFunc fn first cap).run Try.prog w = .ok (.func fn first cap) w := fun _ _ _ _ => rfl
 unfold impl_pair.f at h
 obtain ⟨⟨t0, r0, o0⟩, hs, h⟩ := Option.bind_eq_some_iff.mp h
 obtain ⟨⟨t1, r1, o1⟩, hu, h⟩ := Option.bind_eq_some_iff.mp h
 have HZ := Aside0.mk hz; have EG := Aside0.mk eg0
 clear hz eg0
 have BZ := Aside0.mk (blk_new w (.cells #[.func (.func g0) #[] #[]] 90))
 have HB : Aside0 (Below w.heap.size w (w.alloc (.cells #[.func (.func g0) #[] #[]] 90))) := ⟨(Below.refl _ w).alloc (Nat.le_refl _) _⟩
 cases o0 with
 | false =>
  simp only [Bool.false_eq_true, if_false, Option.some.injEq, Prod.mk.injEq] at h
  obtain ⟨rfl, rfl⟩ := h
  have HS := Aside0.mk hs
  cases o1 with
  | false =>
   have HU := Aside0.mk hu
   clear hs hu
   go_enter Try.func82, Try.ntmps82
   go_wp2_with (first | ((with_reducible refine gate_callee (f := 60) rfl ?_); refine goesL_ (some 16) rfl rfl Try.func60 (by kernel_rfl) rfl #[.string a0] rfl (by (try simp only [List.map_toArray, List.map_cons, List.map_nil]); rfl) ?_; refine (impl_setOf.calls a0 t0 r0 false _ HS.out).mono ?_; rintro e w0 ⟨v0, v1, rfl, ho0, ho1, hb⟩; refine ⟨_, rfl, ?_⟩; obtain ⟨A0, c0, rfl, q0, k0⟩ := Kd.R_reads ho0; obtain ⟨A1, c1, rfl, q1, k1⟩ := Kd.R_reads ho1; replace BZ := Aside0.mk (blk_below BZ.out hb); replace HB := Aside0.mk (below_step HB.out hb); have K0 := Aside0.mk k0; have K1 := Aside0.mk k1; (try clear hb)) | ((with_reducible refine gate_dst (N := 8) rfl ?_); refine box_event ?hg (N := 8) ?hd (cs := #[.slice none 0 0, .slice none 0 0]) (t := 60) ?hr ?_; (case hd => rfl); (case hg => rfl); (case hr => first | (go_simp; done)); intro gb0 hg wb0 hbox hb; have cb00_ := blk_cell hbox 0; have fb00_ := blk_frozen hbox 0; have cb01_ := blk_cell hbox 1; have fb01_ := blk_frozen hbox 1; have hbs := ((hb).setCell (p := ⟨gb0, 0, none⟩) (by rw [hg]; exact Nat.le_refl _) (.slice A0 t0.length c0)).setCell (p := ⟨gb0, 1, none⟩) (by rw [hg]; exact Nat.le_refl _) (.slice A1 r0.length c1); replace BZ := Aside0.mk (blk_below BZ.out hbs); replace HB := Aside0.mk (below_step HB.out hbs); replace K0 := Aside0.mk (Kd.C_below K0.out hbs); replace K1 := Aside0.mk (Kd.C_below K1.out hbs); have BA := Aside0.mk (impl_starred.set2 (u' := .slice A0 t0.length c0) (v' := .slice A1 r0.length c1) hbox); clear hg hb hbox hbs) | ((with_reducible refine gate_callee (f := 60) rfl ?_); refine goesL_ (some 21) rfl rfl Try.func60 (by kernel_rfl) rfl #[.string a1] rfl (by (try simp only [List.map_toArray, List.map_cons, List.map_nil]); rfl) ?_; refine (impl_setOf.calls a1 t1 r1 false _ HU.out).mono ?_; rintro e w1 ⟨v0, v1, rfl, ho0, ho1, hb⟩; refine ⟨_, rfl, ?_⟩; obtain ⟨A2, c2, rfl, q2, k0⟩ := Kd.R_reads ho0; obtain ⟨A3, c3, rfl, q3, k1⟩ := Kd.R_reads ho1; replace BZ := Aside0.mk (blk_below BZ.out hb); replace HB := Aside0.mk (below_step HB.out hb); replace K0 := Aside0.mk (Kd.C_below K0.out hb); replace K1 := Aside0.mk (Kd.C_below K1.out hb); replace BA := Aside0.mk (blk_below BA.out hb); have K2 := Aside0.mk k0; have K3 := Aside0.mk k1; (try clear hb)) | ((with_reducible refine gate_dst (N := 10) rfl ?_); refine box_event ?hg (N := 10) ?hd (cs := #[.slice none 0 0, .slice none 0 0]) (t := 60) ?hr ?_; (case hd => rfl); (case hg => rfl); (case hr => first | (go_simp; done)); intro gb1 hg wb1 hbox hb; have cb10_ := blk_cell hbox 0; have fb10_ := blk_frozen hbox 0; have cb11_ := blk_cell hbox 1; have fb11_ := blk_frozen hbox 1; have x0_ : wb1.cell? ⟨gb0, 0, none⟩ = some (.slice A0 t0.length c0) := blk_cell (blk_below BA.out hb) 0; have x1_ : wb1.cell? ⟨gb0, 1, none⟩ = some (.slice A1 r0.length c1) := blk_cell (blk_below BA.out hb) 1; have xn_ : gb0 ≠ gb1 := (by have := blk_lt BA.out; omega); have xm_ : gb1 ≠ gb0 := (by omega); have hbs := ((hb).setCell (p := ⟨gb1, 0, none⟩) (by rw [hg]; exact Nat.le_refl _) (.slice A2 t1.length c2)).setCell (p := ⟨gb1, 1, none⟩) (by rw [hg]; exact Nat.le_refl _) (.slice A3 r1.length c3); replace BZ := Aside0.mk (blk_below BZ.out hbs); replace HB := Aside0.mk (below_step HB.out hbs); replace K0 := Aside0.mk (Kd.C_below K0.out hbs); replace K1 := Aside0.mk (Kd.C_below K1.out hbs); replace BA := Aside0.mk (blk_below BA.out hbs); replace K2 := Aside0.mk (Kd.C_below K2.out hbs); replace K3 := Aside0.mk (Kd.C_below K3.out hbs); have BB := Aside0.mk (impl_starred.set2 (u' := .slice A2 t1.length c2) (v' := .slice A3 r1.length c3) hbox); clear hg hb hbox hbs))
   go_ret2
   exact ⟨rfl, HB.out⟩
  | true =>
   have HU := Aside0.mk hu
   clear hs hu
   go_enter Try.func82, Try.ntmps82
   go_wp2_with (first | ((with_reducible refine gate_callee (f := 60) rfl ?_); refine goesL_ (some 16) rfl rfl Try.func60 (by kernel_rfl) rfl #[.string a0] rfl (by (try simp only [List.map_toArray, List.map_cons, List.map_nil]); rfl) ?_; refine (impl_setOf.calls a0 t0 r0 false _ HS.out).mono ?_; rintro e w0 ⟨v0, v1, rfl, ho0, ho1, hb⟩; refine ⟨_, rfl, ?_⟩; obtain ⟨A0, c0, rfl, q0, k0⟩ := Kd.R_reads ho0; obtain ⟨A1, c1, rfl, q1, k1⟩ := Kd.R_reads ho1; replace BZ := Aside0.mk (blk_below BZ.out hb); replace HB := Aside0.mk (below_step HB.out hb); have K0 := Aside0.mk k0; have K1 := Aside0.mk k1; (try clear hb)) | ((with_reducible refine gate_dst (N := 8) rfl ?_); refine box_event ?hg (N := 8) ?hd (cs := #[.slice none 0 0, .slice none 0 0]) (t := 60) ?hr ?_; (case hd => rfl); (case hg => rfl); (case hr => first | (go_simp; done)); intro gb0 hg wb0 hbox hb; have cb00_ := blk_cell hbox 0; have fb00_ := blk_frozen hbox 0; have cb01_ := blk_cell hbox 1; have fb01_ := blk_frozen hbox 1; have hbs := ((hb).setCell (p := ⟨gb0, 0, none⟩) (by rw [hg]; exact Nat.le_refl _) (.slice A0 t0.length c0)).setCell (p := ⟨gb0, 1, none⟩) (by rw [hg]; exact Nat.le_refl _) (.slice A1 r0.length c1); replace BZ := Aside0.mk (blk_below BZ.out hbs); replace HB := Aside0.mk (below_step HB.out hbs); replace K0 := Aside0.mk (Kd.C_below K0.out hbs); replace K1 := Aside0.mk (Kd.C_below K1.out hbs); have BA := Aside0.mk (impl_starred.set2 (u' := .slice A0 t0.length c0) (v' := .slice A1 r0.length c1) hbox); clear hg hb hbox hbs) | ((with_reducible refine gate_callee (f := 60) rfl ?_); refine goesL_ (some 21) rfl rfl Try.func60 (by kernel_rfl) rfl #[.string a1] rfl (by (try simp only [List.map_toArray, List.map_cons, List.map_nil]); rfl) ?_; refine (impl_setOf.calls a1 t1 r1 true _ HU.out).mono ?_; rintro e w1 ⟨v0, v1, rfl, ho0, ho1, hb⟩; refine ⟨_, rfl, ?_⟩; obtain ⟨A2, c2, rfl, q2, k0⟩ := Kd.R_reads ho0; obtain ⟨A3, c3, rfl, q3, k1⟩ := Kd.R_reads ho1; replace BZ := Aside0.mk (blk_below BZ.out hb); replace HB := Aside0.mk (below_step HB.out hb); replace K0 := Aside0.mk (Kd.C_below K0.out hb); replace K1 := Aside0.mk (Kd.C_below K1.out hb); replace BA := Aside0.mk (blk_below BA.out hb); have K2 := Aside0.mk k0; have K3 := Aside0.mk k1; (try clear hb)) | ((with_reducible refine gate_dst (N := 10) rfl ?_); refine box_event ?hg (N := 10) ?hd (cs := #[.slice none 0 0, .slice none 0 0]) (t := 60) ?hr ?_; (case hd => rfl); (case hg => rfl); (case hr => first | (go_simp; done)); intro gb1 hg wb1 hbox hb; have cb10_ := blk_cell hbox 0; have fb10_ := blk_frozen hbox 0; have cb11_ := blk_cell hbox 1; have fb11_ := blk_frozen hbox 1; have x0_ : wb1.cell? ⟨gb0, 0, none⟩ = some (.slice A0 t0.length c0) := blk_cell (blk_below BA.out hb) 0; have x1_ : wb1.cell? ⟨gb0, 1, none⟩ = some (.slice A1 r0.length c1) := blk_cell (blk_below BA.out hb) 1; have xn_ : gb0 ≠ gb1 := (by have := blk_lt BA.out; omega); have xm_ : gb1 ≠ gb0 := (by omega); have hbs := ((hb).setCell (p := ⟨gb1, 0, none⟩) (by rw [hg]; exact Nat.le_refl _) (.slice A2 t1.length c2)).setCell (p := ⟨gb1, 1, none⟩) (by rw [hg]; exact Nat.le_refl _) (.slice A3 r1.length c3); replace BZ := Aside0.mk (blk_below BZ.out hbs); replace HB := Aside0.mk (below_step HB.out hbs); replace K0 := Aside0.mk (Kd.C_below K0.out hbs); replace K1 := Aside0.mk (Kd.C_below K1.out hbs); replace BA := Aside0.mk (blk_below BA.out hbs); replace K2 := Aside0.mk (Kd.C_below K2.out hbs); replace K3 := Aside0.mk (Kd.C_below K3.out hbs); have BB := Aside0.mk (impl_starred.set2 (u' := .slice A2 t1.length c2) (v' := .slice A3 r1.length c3) hbox); clear hg hb hbox hbs))
   go_ret2
   exact ⟨rfl, HB.out⟩
 | true =>
  have HS := Aside0.mk hs
  cases o1 with
  | false =>
   simp only [Bool.false_eq_true, if_false, if_true, Option.some.injEq, Prod.mk.injEq] at h
   obtain ⟨rfl, rfl⟩ := h
   have HU := Aside0.mk hu
   clear hs hu
   go_enter Try.func82, Try.ntmps82
   go_wp2_with (first | ((with_reducible refine gate_callee (f := 60) rfl ?_); refine goesL_ (some 16) rfl rfl Try.func60 (by kernel_rfl) rfl #[.string a0] rfl (by (try simp only [List.map_toArray, List.map_cons, List.map_nil]); rfl) ?_; refine (impl_setOf.calls a0 t0 r0 true _ HS.out).mono ?_; rintro e w0 ⟨v0, v1, rfl, ho0, ho1, hb⟩; refine ⟨_, rfl, ?_⟩; obtain ⟨A0, c0, rfl, q0, k0⟩ := Kd.R_reads ho0; obtain ⟨A1, c1, rfl, q1, k1⟩ := Kd.R_reads ho1; replace BZ := Aside0.mk (blk_below BZ.out hb); replace HB := Aside0.mk (below_step HB.out hb); have K0 := Aside0.mk k0; have K1 := Aside0.mk k1; (try clear hb)) | ((with_reducible refine gate_dst (N := 8) rfl ?_); refine box_event ?hg (N := 8) ?hd (cs := #[.slice none 0 0, .slice none 0 0]) (t := 60) ?hr ?_; (case hd => rfl); (case hg => rfl); (case hr => first | (go_simp; done)); intro gb0 hg wb0 hbox hb; have cb00_ := blk_cell hbox 0; have fb00_ := blk_frozen hbox 0; have cb01_ := blk_cell hbox 1; have fb01_ := blk_frozen hbox 1; have hbs := ((hb).setCell (p := ⟨gb0, 0, none⟩) (by rw [hg]; exact Nat.le_refl _) (.slice A0 t0.length c0)).setCell (p := ⟨gb0, 1, none⟩) (by rw [hg]; exact Nat.le_refl _) (.slice A1 r0.length c1); replace BZ := Aside0.mk (blk_below BZ.out hbs); replace HB := Aside0.mk (below_step HB.out hbs); replace K0 := Aside0.mk (Kd.C_below K0.out hbs); replace K1 := Aside0.mk (Kd.C_below K1.out hbs); have BA := Aside0.mk (impl_starred.set2 (u' := .slice A0 t0.length c0) (v' := .slice A1 r0.length c1) hbox); clear hg hb hbox hbs) | ((with_reducible refine gate_callee (f := 60) rfl ?_); refine goesL_ (some 21) rfl rfl Try.func60 (by kernel_rfl) rfl #[.string a1] rfl (by (try simp only [List.map_toArray, List.map_cons, List.map_nil]); rfl) ?_; refine (impl_setOf.calls a1 t1 r1 false _ HU.out).mono ?_; rintro e w1 ⟨v0, v1, rfl, ho0, ho1, hb⟩; refine ⟨_, rfl, ?_⟩; obtain ⟨A2, c2, rfl, q2, k0⟩ := Kd.R_reads ho0; obtain ⟨A3, c3, rfl, q3, k1⟩ := Kd.R_reads ho1; replace BZ := Aside0.mk (blk_below BZ.out hb); replace HB := Aside0.mk (below_step HB.out hb); replace K0 := Aside0.mk (Kd.C_below K0.out hb); replace K1 := Aside0.mk (Kd.C_below K1.out hb); replace BA := Aside0.mk (blk_below BA.out hb); have K2 := Aside0.mk k0; have K3 := Aside0.mk k1; (try clear hb)) | ((with_reducible refine gate_dst (N := 10) rfl ?_); refine box_event ?hg (N := 10) ?hd (cs := #[.slice none 0 0, .slice none 0 0]) (t := 60) ?hr ?_; (case hd => rfl); (case hg => rfl); (case hr => first | (go_simp; done)); intro gb1 hg wb1 hbox hb; have cb10_ := blk_cell hbox 0; have fb10_ := blk_frozen hbox 0; have cb11_ := blk_cell hbox 1; have fb11_ := blk_frozen hbox 1; have x0_ : wb1.cell? ⟨gb0, 0, none⟩ = some (.slice A0 t0.length c0) := blk_cell (blk_below BA.out hb) 0; have x1_ : wb1.cell? ⟨gb0, 1, none⟩ = some (.slice A1 r0.length c1) := blk_cell (blk_below BA.out hb) 1; have xn_ : gb0 ≠ gb1 := (by have := blk_lt BA.out; omega); have xm_ : gb1 ≠ gb0 := (by omega); have hbs := ((hb).setCell (p := ⟨gb1, 0, none⟩) (by rw [hg]; exact Nat.le_refl _) (.slice A2 t1.length c2)).setCell (p := ⟨gb1, 1, none⟩) (by rw [hg]; exact Nat.le_refl _) (.slice A3 r1.length c3); replace BZ := Aside0.mk (blk_below BZ.out hbs); replace HB := Aside0.mk (below_step HB.out hbs); replace K0 := Aside0.mk (Kd.C_below K0.out hbs); replace K1 := Aside0.mk (Kd.C_below K1.out hbs); replace BA := Aside0.mk (blk_below BA.out hbs); replace K2 := Aside0.mk (Kd.C_below K2.out hbs); replace K3 := Aside0.mk (Kd.C_below K3.out hbs); have BB := Aside0.mk (impl_starred.set2 (u' := .slice A2 t1.length c2) (v' := .slice A3 r1.length c3) hbox); clear hg hb hbox hbs))
   go_ret2
   exact ⟨rfl, HB.out⟩
  | true =>
   simp only [if_true] at h
   obtain ⟨⟨qa, qb⟩, hq, h⟩ := Option.bind_eq_some_iff.mp h
   have HU := Aside0.mk hu; have HQ := Aside0.mk hq; have H := Aside0.mk h
   clear hs hu hq h
   go_enter Try.func82, Try.ntmps82
   go_wp2_with (first | ((with_reducible refine gate_callee (f := 60) rfl ?_); refine goesL_ (some 16) rfl rfl Try.func60 (by kernel_rfl) rfl #[.string a0] rfl (by (try simp only [List.map_toArray, List.map_cons, List.map_nil]); rfl) ?_; refine (impl_setOf.calls a0 t0 r0 true _ HS.out).mono ?_; rintro e w0 ⟨v0, v1, rfl, ho0, ho1, hb⟩; refine ⟨_, rfl, ?_⟩; obtain ⟨A0, c0, rfl, q0, k0⟩ := Kd.R_reads ho0; obtain ⟨A1, c1, rfl, q1, k1⟩ := Kd.R_reads ho1; replace BZ := Aside0.mk (blk_below BZ.out hb); replace HB := Aside0.mk (below_step HB.out hb); have K0 := Aside0.mk k0; have K1 := Aside0.mk k1; (try clear hb)) | ((with_reducible refine gate_dst (N := 8) rfl ?_); refine box_event ?hg (N := 8) ?hd (cs := #[.slice none 0 0, .slice none 0 0]) (t := 60) ?hr ?_; (case hd => rfl); (case hg => rfl); (case hr => first | (go_simp; done)); intro gb0 hg wb0 hbox hb; have cb00_ := blk_cell hbox 0; have fb00_ := blk_frozen hbox 0; have cb01_ := blk_cell hbox 1; have fb01_ := blk_frozen hbox 1; have hbs := ((hb).setCell (p := ⟨gb0, 0, none⟩) (by rw [hg]; exact Nat.le_refl _) (.slice A0 t0.length c0)).setCell (p := ⟨gb0, 1, none⟩) (by rw [hg]; exact Nat.le_refl _) (.slice A1 r0.length c1); replace BZ := Aside0.mk (blk_below BZ.out hbs); replace HB := Aside0.mk (below_step HB.out hbs); replace K0 := Aside0.mk (Kd.C_below K0.out hbs); replace K1 := Aside0.mk (Kd.C_below K1.out hbs); have BA := Aside0.mk (impl_starred.set2 (u' := .slice A0 t0.length c0) (v' := .slice A1 r0.length c1) hbox); clear hg hb hbox hbs) | ((with_reducible refine gate_callee (f := 60) rfl ?_); refine goesL_ (some 21) rfl rfl Try.func60 (by kernel_rfl) rfl #[.string a1] rfl (by (try simp only [List.map_toArray, List.map_cons, List.map_nil]); rfl) ?_; refine (impl_setOf.calls a1 t1 r1 true _ HU.out).mono ?_; rintro e w1 ⟨v0, v1, rfl, ho0, ho1, hb⟩; refine ⟨_, rfl, ?_⟩; obtain ⟨A2, c2, rfl, q2, k0⟩ := Kd.R_reads ho0; obtain ⟨A3, c3, rfl, q3, k1⟩ := Kd.R_reads ho1; replace BZ := Aside0.mk (blk_below BZ.out hb); replace HB := Aside0.mk (below_step HB.out hb); replace K0 := Aside0.mk (Kd.C_below K0.out hb); replace K1 := Aside0.mk (Kd.C_below K1.out hb); replace BA := Aside0.mk (blk_below BA.out hb); have K2 := Aside0.mk k0; have K3 := Aside0.mk k1; (try clear hb)) | ((with_reducible refine gate_dst (N := 10) rfl ?_); refine box_event ?hg (N := 10) ?hd (cs := #[.slice none 0 0, .slice none 0 0]) (t := 60) ?hr ?_; (case hd => rfl); (case hg => rfl); (case hr => first | (go_simp; done)); intro gb1 hg wb1 hbox hb; have cb10_ := blk_cell hbox 0; have fb10_ := blk_frozen hbox 0; have cb11_ := blk_cell hbox 1; have fb11_ := blk_frozen hbox 1; have x0_ : wb1.cell? ⟨gb0, 0, none⟩ = some (.slice A0 t0.length c0) := blk_cell (blk_below BA.out hb) 0; have x1_ : wb1.cell? ⟨gb0, 1, none⟩ = some (.slice A1 r0.length c1) := blk_cell (blk_below BA.out hb) 1; have xn_ : gb0 ≠ gb1 := (by have := blk_lt BA.out; omega); have xm_ : gb1 ≠ gb0 := (by omega); have hbs := ((hb).setCell (p := ⟨gb1, 0, none⟩) (by rw [hg]; exact Nat.le_refl _) (.slice A2 t1.length c2)).setCell (p := ⟨gb1, 1, none⟩) (by rw [hg]; exact Nat.le_refl _) (.slice A3 r1.length c3); replace BZ := Aside0.mk (blk_below BZ.out hbs); replace HB := Aside0.mk (below_step HB.out hbs); replace K0 := Aside0.mk (Kd.C_below K0.out hbs); replace K1 := Aside0.mk (Kd.C_below K1.out hbs); replace BA := Aside0.mk (blk_below BA.out hbs); replace K2 := Aside0.mk (Kd.C_below K2.out hbs); replace K3 := Aside0.mk (Kd.C_below K3.out hbs); have BB := Aside0.mk (impl_starred.set2 (u' := .slice A2 t1.length c2) (v' := .slice A3 r1.length c3) hbox); clear hg hb hbox hbs) | ((with_reducible refine gate_callee (f := 68) rfl ?_); refine goesL_ (some 33) rfl rfl Try.func68 (by kernel_rfl) rfl #[.agg #[.slice A0 t0.length c0, .slice A1 r0.length c1], .agg #[.slice A2 t1.length c2, .slice A3 r1.length c3]] rfl (by (try simp only [List.map_toArray, List.map_cons, List.map_nil]); rfl) ?_; refine (impl_both.calls k A0 c0 t0 A1 c1 r0 A2 c2 t1 A3 c3 r1 qa qb _ K0.out q0 K1.out q1 K2.out q2 K3.out q3 HQ.out).mono ?_; (try clear cb00_ cb01_ cb10_ cb11_ fb00_ fb01_ fb10_ fb11_ x0_ x1_); rintro e w5 ⟨rfl, hb⟩; refine ⟨_, rfl, ?_⟩; replace BZ := Aside0.mk (blk_below BZ.out hb); replace HB := Aside0.mk (below_step HB.out hb); replace K0 := Aside0.mk (Kd.C_below K0.out hb); replace K1 := Aside0.mk (Kd.C_below K1.out hb); replace BA := Aside0.mk (blk_below BA.out hb); replace K2 := Aside0.mk (Kd.C_below K2.out hb); replace K3 := Aside0.mk (Kd.C_below K3.out hb); replace BB := Aside0.mk (blk_below BB.out hb); have e0_ : w5.cell? ⟨gb0, 0, none⟩ = some (.slice A0 t0.length c0) := blk_cell BA.out 0; (try clear hb)) | ((with_reducible refine gate_callee (f := 79) rfl ?_); refine goesL_ (some 39) rfl rfl Try.func79 (by kernel_rfl) rfl #[.int .i64 qa, .int .i64 qb, .func (.func 113) #[] #[.pointer (some ⟨w.heap.size, 0, none⟩), .pointer (some ⟨gb0, 0, none⟩), .pointer (some ⟨gb1, 0, none⟩)]] rfl (by (try simp only [List.map_toArray, List.map_cons, List.map_nil]); rfl) ?_; refine (impl_made.calls k qa qb (impl_pair.p z t0 r0 t1 r1) 113 #[.pointer (some ⟨w.heap.size, 0, none⟩), .pointer (some ⟨gb0, 0, none⟩), .pointer (some ⟨gb1, 0, none⟩)] r1' r2' _ (fun args_ w_ => enters_ Try.func113 (by kernel_rfl) rfl args_ w_) ?hpx H.out).mono ?_; (case hpx => intro n_ b_ W_ hW_ hb_; exact impl_pair.lit g0 z w EG.out HZ.out w.heap.size gb0 gb1 A0 c0 t0 A1 c1 r0 A2 c2 t1 A3 c3 r1 n_ b_ W_ (below_step HB.out hW_) (blk_below BZ.out hW_) (blk_below BA.out hW_) (blk_below BB.out hW_) (Kd.C_below K0.out hW_) q0 (Kd.C_below K1.out hW_) q1 (Kd.C_below K2.out hW_) q2 (Kd.C_below K3.out hW_) q3 hb_); rintro e w6 ⟨rfl, hb⟩; refine ⟨_, rfl, ?_⟩; replace BZ := Aside0.mk (blk_below BZ.out hb); replace HB := Aside0.mk (below_step HB.out hb); replace K0 := Aside0.mk (Kd.C_below K0.out hb); replace K1 := Aside0.mk (Kd.C_below K1.out hb); replace BA := Aside0.mk (blk_below BA.out hb); replace K2 := Aside0.mk (Kd.C_below K2.out hb); replace K3 := Aside0.mk (Kd.C_below K3.out hb); replace BB := Aside0.mk (blk_below BB.out hb); (try clear hb)))
   go_ret2
   exact ⟨rfl, HB.out⟩
end Go.Proofs.Ytpkpgdlbgcjloaa.Q

namespace Go.Proofs.Ytpkpgdlbgcjloaa.Q
open Go.RowKit Go.Proofs.YtpkpgdlbgcjloaaW.PrintWords Go.Proofs.YtpkpgdlbgcjloaaW.PrintLast Go.Proofs.YtpkpgdlbgcjloaaW.PrintMore
attribute [local go_sem] max2_int min2_int max_two min_two max_three min_three max_four min_four   -- for this text's walks alone
set_option linter.unusedVariables false
set_option linter.unusedSimpArgs false

end Go.Proofs.Ytpkpgdlbgcjloaa.Q

namespace Go.Proofs.Ytpkpgdlbgcjloaa.Q
open Go.RowKit Go.Proofs.YtpkpgdlbgcjloaaW.PrintWords Go.Proofs.YtpkpgdlbgcjloaaW.PrintLast Go.Proofs.YtpkpgdlbgcjloaaW.PrintMore
attribute [local go_sem] max2_int min2_int max_two min_two max_three min_three max_four min_four   -- for this text's walks alone
set_option linter.unusedVariables false
set_option linter.unusedSimpArgs false
def impl_StarPlus.f (k : Nat) (a0 : ByteArray) : Option (ByteArray × Bool) := impl_starred.f k a0 (fun t_ r_ => impl_set_has.f t_ r_ 0)
theorem impl_StarPlus.mono : ∀ a0 k, LeO (impl_StarPlus.f k a0) (impl_StarPlus.f (k + 1) a0) := fun a0 k => impl_starred.mono a0 _ k
set_option maxHeartbeats 1000000 in
set_option maxRecDepth 100000 in
theorem impl_StarPlus.zero (w : World) : impl_starred.Zero w 72 #[] (fun t_ r_ => impl_set_has.f t_ r_ 0) := by
 intro A0 c0 l0 A1 c1 l1 b W _ r0 q0 r1 q1 h
 have C := fun (o : Obj) => impl_set_has.calls A0 c0 l0 A1 c1 l1 0 b (W.alloc o) (Kd.C_alloc r0 o) q0 (Kd.C_alloc r1 o) q1 h
 clear h r0 q0 r1 q1
 go_enter Try.func72, Try.ntmps72
 go_wp2_with (go_at_call 61; refine (C _).mono ?_; rintro e w' ⟨rfl, hb⟩)
 go_ret
 exact ⟨rfl, below_step ((Below.refl _ W).alloc (Nat.le_refl _) _) hb⟩
set_option maxHeartbeats 1000000 in
set_option maxRecDepth 100000 in
theorem impl_StarPlus.calls (k : Nat) (a0 : ByteArray) (r1 : ByteArray) (r2 : Bool) (w : World) (h : impl_StarPlus.f k a0 = some (r1, r2)) :
  Calls Try.prog 29 #[.string a0] w fun e w' => e = .returned (.tuple #[.string r1, .bool r2]) ∧ Below w.heap.size w w' := by
 have C := impl_starred.calls k a0 72 _ r1 r2 w (fun args_ w_ => enters_ Try.func72 (by kernel_rfl) rfl args_ w_) (impl_StarPlus.zero w) h
 clear h
 go_enter Try.func29, Try.ntmps29
 go_wp2_with (go_at_call 71; refine C.mono ?_; rintro e w' ⟨rfl, hb⟩)
 go_ret2
 exact ⟨rfl, hb⟩
end Go.Proofs.Ytpkpgdlbgcjloaa.Q

namespace Go.Proofs.Ytpkpgdlbgcjloaa.Q
open Go.RowKit Go.Proofs.YtpkpgdlbgcjloaaW.PrintWords Go.Proofs.YtpkpgdlbgcjloaaW.PrintLast Go.Proofs.YtpkpgdlbgcjloaaW.PrintMore
attribute [local go_sem] max2_int min2_int max_two min_two max_three min_three max_four min_four   -- for this text's walks alone
set_option linter.unusedVariables false
set_option linter.unusedSimpArgs false

end Go.Proofs.Ytpkpgdlbgcjloaa.Q

namespace Go.Proofs.Ytpkpgdlbgcjloaa.Q
open Go.RowKit Go.Proofs.YtpkpgdlbgcjloaaW.PrintWords Go.Proofs.YtpkpgdlbgcjloaaW.PrintLast Go.Proofs.YtpkpgdlbgcjloaaW.PrintMore
attribute [local go_sem] max2_int min2_int max_two min_two max_three min_three max_four min_four   -- for this text's walks alone
set_option linter.unusedVariables false
set_option linter.unusedSimpArgs false

end Go.Proofs.Ytpkpgdlbgcjloaa.Q

namespace Go.Proofs.Ytpkpgdlbgcjloaa.Q
open Go.RowKit Go.Proofs.YtpkpgdlbgcjloaaW.PrintWords Go.Proofs.YtpkpgdlbgcjloaaW.PrintLast Go.Proofs.YtpkpgdlbgcjloaaW.PrintMore
attribute [local go_sem] max2_int min2_int max_two min_two max_three min_three max_four min_four   -- for this text's walks alone
set_option linter.unusedVariables false
set_option linter.unusedSimpArgs false

end Go.Proofs.Ytpkpgdlbgcjloaa.Q

namespace Go.Proofs.Ytpkpgdlbgcjloaa.Q
open Go.RowKit Go.Proofs.YtpkpgdlbgcjloaaW.PrintWords Go.Proofs.YtpkpgdlbgcjloaaW.PrintLast Go.Proofs.YtpkpgdlbgcjloaaW.PrintMore
attribute [local go_sem] max2_int min2_int max_two min_two max_three min_three max_four min_four   -- for this text's walks alone
set_option linter.unusedVariables false
set_option linter.unusedSimpArgs false

end Go.Proofs.Ytpkpgdlbgcjloaa.Q

namespace Go.Proofs.Ytpkpgdlbgcjloaa.Q
open Go.RowKit Go.Proofs.YtpkpgdlbgcjloaaW.PrintWords Go.Proofs.YtpkpgdlbgcjloaaW.PrintLast Go.Proofs.YtpkpgdlbgcjloaaW.PrintMore
attribute [local go_sem] max2_int min2_int max_two min_two max_three min_three max_four min_four   -- for this text's walks alone
set_option linter.unusedVariables false
set_option linter.unusedSimpArgs false

end Go.Proofs.Ytpkpgdlbgcjloaa.Q

namespace Go.Proofs.Ytpkpgdlbgcjloaa.Q
open Go.RowKit Go.Proofs.YtpkpgdlbgcjloaaW.PrintWords Go.Proofs.YtpkpgdlbgcjloaaW.PrintLast Go.Proofs.YtpkpgdlbgcjloaaW.PrintMore
open Go.Proofs.Ytpkpgdlbgcjloaa.Pl (hasB)
set_option linter.unusedVariables false
set_option linter.unusedSimpArgs false
theorem wr {x : Int} (h0 : -9223372036854775808 ≤ x) (h1 : x ≤ 9223372036854775807) : wrap64 x = x := by unfold wrap64; omega
theorem Ev.eq {α : Type} {g f : Nat → Option α} {r : α} (h : g = f) (k : Ev f r) : Ev g r := h ▸ k
theorem Ev.end {α : Type} {g : Nat → Option α} {r : α} (h : ∀ k, g (k + 1) = some r) : Ev g r := ⟨1, fun k hk => by obtain ⟨m, rfl⟩ : ∃ m, k = m + 1 := ⟨k - 1, by omega⟩; exact h m⟩
theorem Ev.const {α : Type} {g : Nat → Option α} {r : α} (h : ∀ k, g k = some r) : Ev g r := ⟨0, fun k _ => h k⟩
theorem Ev.unique {α : Type} {g : Nat → Option α} {r q : α} (h : Ev g r) (k : Ev g q) : r = q := by
  obtain ⟨a, ha⟩ := h
  obtain ⟨b, hb⟩ := k
  have h1 := ha (max a b) (Nat.le_max_left _ _)
  rw [hb (max a b) (Nat.le_max_right _ _)] at h1
  exact (Option.some.inj h1).symm

theorem bt_list (s : ByteArray) (i : Nat) (h : i < s.size) : bt s (i : Int) = ((s.data.toList.getD i 0).toNat : Int) := by
  unfold bt
  rw [dif_pos (by simpa using h)]
  have : s.data.toList.length = s.size := Array.length_toList
  simp [List.getD, h, this]
  rfl
theorem bt_is (s : ByteArray) (i : Nat) (h : i < s.size) (c : UInt8) (n : Int) (hn : n = (c.toNat : Int)) : bt s (i : Int) = n ↔ s.data.toList.getD i 0 = c := by
  rw [bt_list s i h, hn]
  constructor
  · intro h
    exact UInt8.toNat_inj.1 (by exact_mod_cast h)
  · intro h
    rw [h]
theorem drop_getD {α : Type} (l : List α) (i : Nat) (z : α) (h : i < l.length) : l.drop i = l.getD i z :: l.drop (i + 1) := by
  rw [List.drop_eq_getElem_cons h]; simp [List.getD, h]

def okL (l : List UInt8) : Bool := l.all fun c => c == 48 || c == 49
theorem signs_l0 (s : ByteArray) (hs : s.size ≤ 1073741824) (d : Nat) : ∀ (i : Nat) (acc : List Bool), i + d = s.size → acc.length = i →
    Ev (fun k => spec_l1Signs.l0 k s acc i) (if okL (s.data.toList.drop i) then (acc ++ (s.data.toList.drop i).map (· == 49), true) else ([], false)) := by
  have hl : s.data.toList.length = s.size := Array.length_toList
  induction d with
  | zero =>
    intro i acc h1 h2
    refine Ev.end fun k => ?_
    simp only [spec_l1Signs.l0]
    rw [if_neg (by omega), List.drop_of_length_le (by omega)]
    simp [okL]
  | succ d ih =>
    intro i acc h1 h2
    rw [drop_getD _ i 0 (by omega)]
    have hb48 := bt_is s i (by omega) 48 48 rfl
    have hb49 := bt_is s i (by omega) 49 49 rfl
    have hw : wrap64 ((i : Int) + 1) = ((i + 1 : Nat) : Int) := by rw [wr (by omega) (by omega)]; omega
    by_cases c48 : s.data.toList.getD i 0 = 48
    · refine Ev.step (f := fun k => spec_l1Signs.l0 k s (acc ++ [false]) ((i + 1 : Nat) : Int)) (fun k => ?_) ?_
      · simp only [spec_l1Signs.l0]
        have e : bt s (i : Int) = 48 := hb48.2 c48
        rw [if_pos (by omega), if_pos (by omega), if_pos e, if_pos (by omega), hw, e]
        rfl
      · have := ih (i + 1) (acc ++ [false]) (by omega) (by simp [h2])
        rw [c48]
        simpa [okL] using this
    · by_cases c49 : s.data.toList.getD i 0 = 49
      · refine Ev.step (f := fun k => spec_l1Signs.l0 k s (acc ++ [true]) ((i + 1 : Nat) : Int)) (fun k => ?_) ?_
        · simp only [spec_l1Signs.l0]
          have e : bt s (i : Int) = 49 := hb49.2 c49
          rw [if_pos (by omega), if_pos (by omega), if_neg (fun h => c48 (hb48.1 h)), if_pos e, if_pos (by omega), hw]
        · have := ih (i + 1) (acc ++ [true]) (by omega) (by simp [h2])
          rw [c49]
          simpa [okL] using this
      · refine Ev.end fun k => ?_
        simp only [spec_l1Signs.l0]
        rw [if_pos (by omega), if_pos (by omega), if_neg (fun h => c48 (hb48.1 h)), if_neg (fun h => c49 (hb49.1 h))]
        rw [if_neg]
        simp only [okL, List.all_cons, Bool.and_eq_true, Bool.or_eq_true, beq_iff_eq, not_and]
        intro h
        exact absurd h (by simp only [not_or]; exact ⟨c48, c49⟩)
theorem l1Signs_ev (s : ByteArray) (hs : s.size ≤ 1073741824) : Ev (fun k => spec_l1Signs.f k s) (if okL s.data.toList then (s.data.toList.map (· == 49), true) else ([], false)) := by
  have := signs_l0 s hs s.size 0 [] (by omega) rfl
  simpa [spec_l1Signs.f] using this
theorem signs_ev (s : ByteArray) (hs : s.size ≤ 1073741824) : impl_signs.f s = some (if okL s.data.toList then (s.data.toList.map (· == 49), decide ((s.size : Int) ≤ 60)) else ([], false)) := by
  unfold impl_signs.f
  rw [if_pos (by omega)]
  unfold okL impl_signs.ok
  split <;> rfl

theorem index_cases (l : List UInt8) (c : UInt8) : (Lib.indexByte l c = -1 ∧ ∀ i, i < l.length → l.getD i 0 ≠ c) ∨ ∃ i : Nat, i < l.length ∧ Lib.indexByte l c = i ∧ l.getD i 0 = c ∧ ∀ j, j < i → l.getD j 0 ≠ c := by
  induction l with
  | nil => left; exact ⟨rfl, fun i h => absurd h (Nat.not_lt_zero i)⟩
  | cons b l ih =>
    unfold Lib.indexByte
    by_cases hb : b = c
    · right
      exact ⟨0, by simp, by simp [hb], by simp [hb], fun j h => absurd h (Nat.not_lt_zero j)⟩
    · rw [if_neg (by simpa using hb)]
      rcases ih with ⟨h1, h2⟩ | ⟨i, h1, h2, h3, h4⟩
      · left
        refine ⟨by rw [h1]; rfl, fun i hi => ?_⟩
        cases i with
        | zero => simpa using hb
        | succ i => simpa using h2 i (by simpa using hi)
      · right
        refine ⟨i + 1, by simpa using h1, ?_, by simpa using h3, fun j hj => ?_⟩
        · rw [h2, if_neg (by simp only [beq_iff_eq]; omega)]; omega
        · cases j with
          | zero => simpa using hb
          | succ j => simpa using h4 j (by omega)

structure Good (t r : List Bool) : Prop where
  pos : 0 < r.length
  tl : t.length ≤ 60
  rl : r.length ≤ 60
structure IsSet (s : ByteArray) (t r : List Bool) : Prop where
  good : Good t r
  impl : impl_setOf.f s = some (t, r, true)
  spec : Ev (fun k => spec_l1Read.f k s) (t, r, true)
structure NoSet (s : ByteArray) : Prop where
  impl : ∃ a b, impl_setOf.f s = some (a, b, false)
  spec : ∃ a b, Ev (fun k => spec_l1Read.f k s) (a, b, false)

/-- The reader comes to the first bracket, or to the end. -/
theorem read_l0 (s : ByteArray) (hs : s.size ≤ 1073741824) (a b : List Bool) {r : List Bool × List Bool × Bool} (j : Nat) (hj : j ≤ s.size) (hn : ∀ i, i < j → s.data.toList.getD i 0 ≠ 40) (hend : j < s.size → s.data.toList.getD j 0 = 40)
    (h : Ev (fun k => spec_l1Read.j1 k s j a b) r) (d : Nat) : ∀ i, i + d = j → Ev (fun k => spec_l1Read.l0 k s (i : Nat) a b) r := by
  induction d with
  | zero =>
    intro i hi
    obtain rfl : i = j := by omega
    refine Ev.step (fun k => ?_) h
    simp only [spec_l1Read.l0]
    by_cases c : i < s.size
    · rw [if_pos (by omega), if_pos (by omega), if_pos ((bt_is s i c 40 40 rfl).2 (hend c))]
    · rw [if_neg (by omega)]
  | succ d ih =>
    intro i hi
    refine Ev.step (fun k => ?_) (ih (i + 1) (by omega))
    simp only [spec_l1Read.l0]
    have hw : wrap64 ((i : Int) + 1) = ((i + 1 : Nat) : Int) := by rw [wr (by omega) (by omega)]; omega
    rw [if_pos (by omega), if_pos (by omega), if_neg (fun h => hn i (by omega) ((bt_is s i (by omega) 40 40 rfl).1 h)), hw]

theorem size_data (s : ByteArray) : s.data.toList.length = s.size := Array.length_toList
theorem ext_size (s : ByteArray) (a b : Nat) (hb : b ≤ s.size) : (s.extract a b).size = b - a := by simp; omega
theorem ext_list (s : ByteArray) (a b : Nat) : (s.extract a b).data.toList = (s.data.toList.take b).drop a := by
  simp [List.extract_eq_take_drop, List.drop_take]
theorem toList_eq (s : ByteArray) : s.toList = s.data.toList := (Lib.toList_data s).symm ▸ rfl

theorem last_eq {s : ByteArray} {i : Nat} (h : i + 1 < s.size) : ((s.extract (i + 1) s.size).extract ((s.extract (i + 1) s.size).size - 1) (s.extract (i + 1) s.size).size).toList = [s.data.toList.getD (s.size - 1) 0] := by
  rw [toList_eq, ext_list, ext_list, ext_size _ _ _ (Nat.le_refl _)]
  have hl := size_data s
  rw [List.take_of_length_le (l := s.data.toList) (by omega), List.take_of_length_le (by rw [List.length_drop]; omega), List.drop_drop, drop_getD _ _ 0 (by omega), List.drop_of_length_le (by omega)]
  congr 2
  omega
theorem ring_eq {s : ByteArray} {i : Nat} (h : i + 1 < s.size) : (s.extract (i + 1) s.size).extract 0 ((s.extract (i + 1) s.size).size - 1) = s.extract (i + 1) (s.size - 1) := by
  have : ∀ a b : ByteArray, a.data.toList = b.data.toList → a = b := fun a b h => by
    obtain ⟨⟨a⟩⟩ := a; obtain ⟨⟨b⟩⟩ := b; simp at h; simp [h]
  refine this _ _ ?_
  have hl := size_data s
  rw [ext_list, ext_list, ext_list, ext_size _ _ _ (Nat.le_refl _), List.drop_zero, List.take_of_length_le (l := s.data.toList) (by omega), List.drop_take]
  congr 1
  omega

/-- Each text is a set text for both readers, with the same tail and ring, or for none. -/
theorem read_cases (s : ByteArray) (hs : s.size ≤ 1073741824) : NoSet s ∨ ∃ t r, IsSet s t r := by
  have hl := size_data s
  have hsg := fun (x : ByteArray) (hx : x.size ≤ 1073741824) => signs_ev x hx
  rcases index_cases s.data.toList 40 with ⟨h1, h2⟩ | ⟨i, h1, h2, h3, h4⟩
  · left
    refine ⟨?_, ?_⟩
    · have hc : strings_Cut.f s ⟨#[40]⟩ = some (s, ⟨#[]⟩, false) := by
        unfold strings_Cut.f stringslite_Cut.f stringslite_Index.f
        rw [dif_pos (by rfl)]
        show ((some (Lib.indexByte s.data.toList 40)).bind _).bind _ = _
        rw [h1]
        rfl
      have hd : strings_CutSuffix.f ⟨#[]⟩ ⟨#[41]⟩ = some (⟨#[]⟩, false) := by rfl
      refine ⟨(if okL s.data.toList then (s.data.toList.map (· == 49), decide ((s.size : Int) ≤ 60)) else ([], false)).1, [], ?_⟩
      unfold impl_setOf.f
      rw [hc]; simp only [Option.bind_some]
      rw [hd]; simp only [Option.bind_some]
      rw [hsg s hs, hsg ⟨#[]⟩ (by decide)]
      simp only [Option.bind_some]
      rw [if_neg (by simp)]
      rfl
    · refine ⟨[], [false], ?_⟩
      refine read_l0 s hs [] [false] s.size (Nat.le_refl _) (fun i hi => h2 i (by omega)) (fun h => by omega) ?_ s.size 0 (by omega)
      refine Ev.step (f := fun k => spec_l1Read.j2 k s (s.size : Nat) true [] [false]) (fun k => ?_) (Ev.end fun k => ?_)
      · simp only [spec_l1Read.j1]
        rw [if_pos (by rw [wr (by omega) (by omega)]; omega)]
      · simp only [spec_l1Read.j2, if_true]
  · have hi : i < s.size := by omega
    have hc : strings_Cut.f s ⟨#[40]⟩ = some (s.extract 0 i, s.extract (i + 1) s.size, true) := by
      unfold strings_Cut.f stringslite_Cut.f stringslite_Index.f
      rw [dif_pos (by rfl)]
      show ((some (Lib.indexByte s.data.toList 40)).bind _).bind _ = _
      rw [h2]
      simp only [Option.bind_some]
      have hz : ((⟨#[40]⟩ : ByteArray).size : Int) = 1 := rfl
      rw [if_pos (by omega), if_pos (by omega), if_pos (by omega), hz, wr (by omega) (by omega), if_pos (by omega), if_pos (by omega)]
      simp only [Option.bind_some, Int.toNat_natCast]
      rw [show ((i : Int) + 1).toNat = i + 1 from by omega]
    have hz1 : (s.extract (i + 1) s.size).size = s.size - (i + 1) := ext_size _ _ _ (Nat.le_refl _)
    have h41 : ((⟨#[41]⟩ : ByteArray).size : Int) = 1 := rfl
    have hsuf : strings_CutSuffix.f (s.extract (i + 1) s.size) ⟨#[41]⟩ = some (if i + 1 < s.size ∧ s.data.toList.getD (s.size - 1) 0 = 41 then (s.extract (i + 1) (s.size - 1), true) else (s.extract (i + 1) s.size, false)) := by
      unfold strings_CutSuffix.f stringslite_CutSuffix.f stringslite_HasSuffix.f
      rw [h41]
      by_cases c : i + 1 < s.size
      · rw [if_pos (by omega), wr (by omega) (by omega), if_pos (by omega), if_pos (by omega), show (((s.extract (i + 1) s.size).size : Int) - 1).toNat = (s.extract (i + 1) s.size).size - 1 from by omega, last_eq c, ring_eq c]
        simp only [Option.bind_some]
        have hb : ([s.data.toList.getD (s.size - 1) 0] == (⟨#[41]⟩ : ByteArray).toList) = decide (s.data.toList.getD (s.size - 1) 0 = 41) := by
          rw [toList_eq, Bool.eq_iff_iff]; simp
        rw [hb]
        by_cases e : s.data.toList.getD (s.size - 1) 0 = 41
        · rw [decide_eq_true e, if_pos rfl, if_pos (by omega), if_pos (by omega), if_pos ⟨c, e⟩]; rfl
        · rw [decide_eq_false e, if_neg (by simp), if_neg (by intro h; exact e h.2)]; rfl
      · rw [if_neg (by omega)]
        simp only [Option.bind_some, Bool.false_eq_true, if_false]
        rw [if_neg (fun h => c h.1)]
    have hspec : ∀ (r : List Bool × List Bool × Bool), Ev (fun k => spec_l1Read.j1 k s i [] [false]) r → Ev (fun k => spec_l1Read.f k s) r := by
      intro r hr
      exact read_l0 s hs [] [false] i (by omega) (fun j hj => h4 j hj) (fun _ => h3) hr i 0 (by omega)
    have hnull : ∀ x : Bool, x = true → Ev (fun k => spec_l1Read.j2 k s (i : Nat) x [] [false]) (([] : List Bool), [false], false) := by
      intro x hx
      refine Ev.end fun k => ?_
      simp only [spec_l1Read.j2]
      rw [if_pos hx]
    -- for the reader's bracket at the end
    have hj1 : ∀ r, Ev (fun k => spec_l1Read.j2 k s (i : Nat) (decide (s.size ≤ i + 2) || s.data.toList.getD (s.size - 1) 0 != 41) [] [false]) r → Ev (fun k => spec_l1Read.j1 k s i [] [false]) r := by
      intro r hr
      refine Ev.step (fun k => ?_) hr
      simp only [spec_l1Read.j1]
      rw [wr (x := (i : Int) + 2) (by omega) (by omega), wr (x := (s.size : Int) - 1) (by omega) (by omega)]
      by_cases c : s.size ≤ i + 2
      · rw [if_pos (by omega)]; simp [c]
      · rw [if_neg (by omega), if_pos (by omega), if_pos (by omega)]
        rw [show (s.size : Int) - 1 = ((s.size - 1 : Nat) : Int) from by omega]
        congr 1
        simp only [c, decide_false, Bool.false_or]
        have := bt_is s (s.size - 1) (by omega) 41 41 rfl
        rw [Bool.eq_iff_iff]; simp only [bne_iff_ne, ne_eq, this]
    by_cases c : (i + 2 < s.size) ∧ s.data.toList.getD (s.size - 1) 0 = 41
    · obtain ⟨c1, c2⟩ := c
      rw [if_pos ⟨by omega, c2⟩] at hsuf
      have e1 := hsg (s.extract 0 i) (by rw [ext_size _ _ _ (by omega)]; omega)
      have e2 := hsg (s.extract (i + 1) (s.size - 1)) (by rw [ext_size _ _ _ (by omega)]; omega)
      have g1 := l1Signs_ev (s.extract 0 i) (by rw [ext_size _ _ _ (by omega)]; omega)
      have g2 := l1Signs_ev (s.extract (i + 1) (s.size - 1)) (by rw [ext_size _ _ _ (by omega)]; omega)
      have z1 : (s.extract 0 i).size = i := by rw [ext_size _ _ _ (by omega)]; omega
      have z2 : (s.extract (i + 1) (s.size - 1)).size = s.size - i - 2 := by rw [ext_size _ _ _ (by omega)]; omega
      have y1 := size_data (s.extract 0 i)
      have y2 := size_data (s.extract (i + 1) (s.size - 1))
      rw [z1] at e1 y1
      rw [z2] at e2 y2
      have himpl : impl_setOf.f s = (impl_signs.f (s.extract 0 i)).bind fun x => (impl_signs.f (s.extract (i + 1) (s.size - 1))).bind fun y => some (x.1, y.1, x.2 && y.2 && decide ((y.1.length : Int) > 0)) := by
        unfold impl_setOf.f
        rw [hc]; simp only [Option.bind_some]
        rw [hsuf]; simp only [Option.bind_some]
        congr 1; funext x; congr 1; funext y
        cases x.2 <;> cases y.2 <;> simp
      have hj2 : ∀ (x y : List Bool × Bool), Ev (fun k => spec_l1Signs.f k (s.extract 0 i)) x → Ev (fun k => spec_l1Signs.f k (s.extract (i + 1) (s.size - 1))) y →
          Ev (fun k => spec_l1Read.f k s) (if x.2 && y.2 && decide (x.1.length ≤ 60) && decide (y.1.length ≤ 60) then (x.1, y.1, true) else ([], [false], false)) := by
        intro x y hx hy
        refine hspec _ (hj1 _ ?_)
        have : (decide (s.size ≤ i + 2) || s.data.toList.getD (s.size - 1) 0 != 41) = false := by rw [c2]; simp; omega
        rw [this]
        refine Ev.step (f := fun k => (spec_l1Signs.f k (s.extract 0 i)).bind fun bt121 => (spec_l1Signs.f k (s.extract (i + 1) (s.size - 1))).bind fun bt125 => (if bt121.2 = true then (if bt125.2 = true then (if (bt121.1.length : Int) > 60 then (some (([] : List Bool), [false], false)) else (if (bt125.1.length : Int) > 60 then (some ([], [false], false)) else (some (bt121.1, bt125.1, true)))) else (some ([], [false], false))) else (some ([], [false], false)))) (fun k => ?_) ?_
        · simp only [spec_l1Read.j2]
          rw [if_neg (by simp), if_pos (by omega), if_pos (by omega), wr (x := (i : Int) + 1) (by omega) (by omega), wr (x := (s.size : Int) - 1) (by omega) (by omega)]
          simp only [if_pos (show (0 : Int) ≤ (i : Int) + 1 from by omega), if_pos (show (i : Int) + 1 ≤ (s.size : Int) - 1 from by omega), if_pos (show (s.size : Int) - 1 ≤ (s.size : Int) from by omega)]
          rw [Int.toNat_natCast, show ((i : Int) + 1).toNat = i + 1 from by omega, show ((s.size : Int) - 1).toNat = s.size - 1 from by omega]
        · refine Ev.bind hx (Ev.bind hy (Ev.const fun k => ?_))
          obtain ⟨x1, x2⟩ := x
          obtain ⟨y1, y2⟩ := y
          cases x2 <;> cases y2 <;> simp
          by_cases q1 : x1.length ≤ 60
          · by_cases q2 : y1.length ≤ 60
            · rw [if_neg (by omega), if_neg (by omega), if_pos ⟨q1, q2⟩]
            · rw [if_neg (by omega), if_pos (by omega), if_neg (by omega)]
          · rw [if_pos (by omega), if_neg (by omega)]
      have hfin := hj2 _ _ g1 g2
      rw [e1, e2] at himpl
      simp only [Option.bind_some] at himpl
      cases o1 : okL (s.extract 0 i).data.toList with
      | false => left; rw [o1] at himpl hfin; exact ⟨⟨_, _, by rw [himpl]; simp; exact ⟨rfl, rfl⟩⟩, ⟨_, _, by simpa using hfin⟩⟩
      | true =>
        cases o2 : okL (s.extract (i + 1) (s.size - 1)).data.toList with
        | false => left; rw [o1, o2] at himpl hfin; exact ⟨⟨_, _, by rw [himpl]; simp; exact ⟨rfl, rfl⟩⟩, ⟨_, _, by simpa using hfin⟩⟩
        | true =>
          rw [o1, o2] at himpl hfin
          simp only [if_true, List.length_map, Bool.and_self, Bool.true_and] at himpl hfin
          rw [y1, y2] at hfin
          rw [y2] at himpl
          by_cases q : i ≤ 60 ∧ s.size - i - 2 ≤ 60
          · right
            refine ⟨(s.extract 0 i).data.toList.map (· == 49), (s.extract (i + 1) (s.size - 1)).data.toList.map (· == 49), ⟨?_, by rw [List.length_map]; omega, by rw [List.length_map]; omega⟩, himpl.trans ?_, ?_⟩
            · rw [List.length_map]; omega
            · rw [decide_eq_true (show ((i : Nat) : Int) ≤ 60 from by omega), decide_eq_true (show (((s.size - i - 2 : Nat) : Int) ≤ 60) from by omega), decide_eq_true (show (((s.size - i - 2 : Nat) : Int) > 0) from by omega)]
              rfl
            · rw [decide_eq_true q.1, decide_eq_true q.2] at hfin
              exact hfin
          · left
            refine ⟨⟨(s.extract 0 i).data.toList.map (· == 49), (s.extract (i + 1) (s.size - 1)).data.toList.map (· == 49), himpl.trans ?_⟩, ⟨[], [false], ?_⟩⟩
            · congr 3
              by_cases q1 : i ≤ 60
              · rw [decide_eq_false (show ¬ (((s.size - i - 2 : Nat) : Int) ≤ 60) from by omega)]; simp
              · rw [decide_eq_false (show ¬ ((i : Nat) : Int) ≤ 60 from by omega)]; simp
            · by_cases q1 : i ≤ 60
              · rw [decide_eq_false (show ¬ (s.size - i - 2 ≤ 60) from by omega)] at hfin; simpa using hfin
              · rw [decide_eq_false q1] at hfin; simpa using hfin
    · left
      have hcond : (decide (s.size ≤ i + 2) || s.data.toList.getD (s.size - 1) 0 != 41) = true := by
        by_cases q : i + 2 < s.size
        · have : ¬ s.data.toList.getD (s.size - 1) 0 = 41 := fun h => c ⟨q, h⟩
          simp only [Bool.or_eq_true, bne_iff_ne, ne_eq]; exact .inr this
        · simp only [Bool.or_eq_true, decide_eq_true_eq]; exact .inl (by omega)
      refine ⟨?_, ⟨[], [false], hspec _ (hj1 _ (hnull _ hcond))⟩⟩
      have e1 := hsg (s.extract 0 i) (by rw [ext_size _ _ _ (by omega)]; omega)
      unfold impl_setOf.f
      rw [hc]; simp only [Option.bind_some]
      rw [hsuf]; simp only [Option.bind_some]
      by_cases q : i + 1 < s.size ∧ s.data.toList.getD (s.size - 1) 0 = 41
      · rw [if_pos q]
        have hem : (s.extract (i + 1) (s.size - 1)).size = 0 := by
          rw [ext_size _ _ _ (by omega)]
          by_cases q2 : i + 2 < s.size
          · exact absurd ⟨q2, q.2⟩ c
          · omega
        have e2 := hsg (s.extract (i + 1) (s.size - 1)) (by omega)
        have y2 := size_data (s.extract (i + 1) (s.size - 1))
        have hn : (s.extract (i + 1) (s.size - 1)).data.toList = [] := List.length_eq_zero_iff.1 (by omega)
        obtain ⟨p, hp⟩ : ∃ p, impl_signs.f (s.extract 0 i) = some p := ⟨_, e1⟩
        rw [hp, e2, hn]
        simp only [Option.bind_some, okL, List.all_nil, if_true, List.map_nil, List.length_nil]
        refine ⟨p.1, [], ?_⟩
        cases p.2 <;> simp
      · rw [if_neg q, e1]
        simp only [Option.bind_some]
        rw [hsg (s.extract (i + 1) s.size) (by omega)]
        simp only [Option.bind_some]
        exact ⟨_, _, rfl⟩

end Go.Proofs.Ytpkpgdlbgcjloaa.Q

namespace Go.Proofs.Ytpkpgdlbgcjloaa.Q
open Go.RowKit Go.Proofs.YtpkpgdlbgcjloaaW.PrintWords Go.Proofs.YtpkpgdlbgcjloaaW.PrintLast Go.Proofs.YtpkpgdlbgcjloaaW.PrintMore
open Go.Proofs.Ytpkpgdlbgcjloaa.Pl
set_option linter.unusedVariables false
set_option linter.unusedSimpArgs false
theorem rdOf_nat (l : List Bool) (n : Nat) : rdOf false l (n : Int) = l.getD n false := by simp [rdOf]
theorem tmod_nat (a b : Nat) : Int.tmod (a : Int) (b : Int) = ((a % b : Nat) : Int) := by
  rw [Int.tmod_eq_emod_of_nonneg (Int.natCast_nonneg a)]; exact (Int.natCast_emod a b).symm
theorem tdiv_nat (a b : Nat) : Int.tdiv (a : Int) (b : Int) = ((a / b : Nat) : Int) := by
  rw [Int.tdiv_eq_ediv_of_nonneg (Int.natCast_nonneg a)]; exact (Int.natCast_ediv a b).symm
theorem wr1 {n : Nat} (h : n ≤ 4611686018427387904) : wrap64 ((n : Int) + 1) = ((n + 1 : Nat) : Int) := by rw [wr (by omega) (by omega)]; omega

theorem set_has {t r : List Bool} (h : Good t r) (n : Nat) (hn : n ≤ 4611686018427387904) : impl_set_has.f t r n = some (hasB t r n) := by
  have h1 := h.pos
  have h2 := h.tl
  have h3 := h.rl
  unfold impl_set_has.f
  rw [if_neg (by omega)]
  by_cases c : n < t.length
  · rw [if_pos (by omega), if_pos (by omega), rdOf_nat, hasB_lt c]
  · have e : wrap64 ((n : Int) - (t.length : Int)) = ((n - t.length : Nat) : Int) := by rw [wr (by omega) (by omega)]; omega
    have hm := Nat.mod_lt (n - t.length) h1
    rw [if_neg (by omega), if_neg (by omega), e, tmod_nat, if_pos (by omega), if_pos (by omega), rdOf_nat, hasB_ge (by omega)]
theorem l1_has {t r : List Bool} (h : Good t r) (n : Nat) (hn : n ≤ 4611686018427387904) : spec_l1Has.f t r n = some (hasB t r n) := by
  have h1 := h.pos
  have h2 := h.tl
  have h3 := h.rl
  unfold spec_l1Has.f
  by_cases c : n < t.length
  · rw [if_pos (by omega), if_pos (by omega), rdOf_nat, hasB_lt c]
  · have e : wrap64 ((n : Int) - (t.length : Int)) = ((n - t.length : Nat) : Int) := by rw [wr (by omega) (by omega)]; omega
    have hm := Nat.mod_lt (n - t.length) h1
    rw [if_neg (by omega), if_neg (by omega), e, tmod_nat, if_pos (by omega), if_pos (by omega), rdOf_nat, hasB_ge (by omega)]


theorem wrm1 {n : Nat} (h0 : 1 ≤ n) (h : n ≤ 4611686018427387904) : wrap64 ((n : Int) - 1) = ((n - 1 : Nat) : Int) := by rw [wr (by omega) (by omega)]; omega

theorem turns_l0 (r : List Bool) (hr : r.length ≤ 1073741824) (d : Nat) (hd : 1 ≤ d) (hdl : d ≤ r.length) (m : Nat) : ∀ i, i + m = r.length → (∀ j, j < i → r.getD j false = r.getD (j % d) false) →
    ∃ b : Bool, Ev (fun k => impl_turns.l0 k r d (r.length : Int) (i : Nat)) b ∧ (b = true ↔ per r d) := by
  induction m with
  | zero =>
    intro i hi hall
    refine ⟨decide (r.length % d = 0), Ev.end fun k => ?_, ?_⟩
    · simp only [impl_turns.l0]
      rw [if_neg (by omega), if_neg (by omega), ← Int.natCast_emod]
      congr 1
      rw [Bool.eq_iff_iff]
      simp only [beq_iff_eq, decide_eq_true_eq]
      omega
    · rw [decide_eq_true_eq]
      exact ⟨fun h => ⟨h, fun j hj => hall j (by omega)⟩, fun h => h.1⟩
  | succ m ih =>
    intro i hi hall
    have hm := Nat.mod_lt i (show d > 0 by omega)
    by_cases c : r.getD i false = r.getD (i % d) false
    · obtain ⟨b, h1, h2⟩ := ih (i + 1) (by omega) (fun j hj => by
        rcases Nat.lt_or_ge j i with h | h
        · exact hall j h
        · obtain rfl : j = i := by omega
          exact c)
      refine ⟨b, Ev.step (fun k => ?_) h1, h2⟩
      simp only [impl_turns.l0]
      rw [if_pos (by omega), if_pos (by omega), if_pos (by omega), if_neg (by omega), tmod_nat, if_pos (by omega), if_pos (by omega), rdOf_nat, rdOf_nat, wr1 (by omega), if_neg (by rw [c]; simp)]
    · refine ⟨false, Ev.end fun k => ?_, ?_⟩
      · simp only [impl_turns.l0]
        rw [if_pos (by omega), if_pos (by omega), if_pos (by omega), if_neg (by omega), tmod_nat, if_pos (by omega), if_pos (by omega), rdOf_nat, rdOf_nat, if_pos (by simpa using c)]
      · exact ⟨fun h => absurd h (by simp), fun h => absurd (h.2 i (by omega)) c⟩
theorem turns_ev (r : List Bool) (hr : r.length ≤ 1073741824) (d : Nat) (hd : 1 ≤ d) (hdl : d ≤ r.length) : ∃ b : Bool, Ev (fun k => impl_turns.f k r d) b ∧ (b = true ↔ per r d) :=
  turns_l0 r hr d hd hdl r.length 0 (by omega) (fun j hj => absurd hj (Nat.not_lt_zero j))

theorem rot_append {r : List Bool} : ([r.getD (r.length - 1) false] : List Bool) ++ r.take (r.length - 1) = rot r := by
  simp [rot, List.dropLast_eq_take]

/-- The tail made short. -/
theorem tidy_l1 (n : Nat) : ∀ (t r : List Bool), t.length = n → t.length ≤ 1073741824 → 0 < r.length → r.length ≤ 1073741824 → (∀ d, 1 ≤ d → d < r.length → ¬ per r d) →
    ∃ t' r', Ev (fun k => impl_set_tidy.l1 k (r.length : Int) t r) (t', r') ∧ Canon t' r' ∧ (∀ m, hasB t' r' m = hasB t r m) ∧ t'.length ≤ t.length ∧ r'.length ≤ r.length := by
  induction n with
  | zero =>
    intro t r ht _ h1 h2 h3
    refine ⟨t, r, Ev.end fun k => ?_, ⟨h1, h3, fun m hm => by omega⟩, fun m => rfl, Nat.le_refl _, Nat.le_refl _⟩
    simp only [impl_set_tidy.l1]
    rw [if_neg (by omega)]
  | succ n ih =>
    intro t r ht htl h1 h2 h3
    have e1 : wrap64 ((t.length : Int) - 1) = (n : Nat) := by rw [wrm1 (by omega) (by omega)]; omega
    by_cases c : t.getD n false = r.getD (r.length - 1) false
    · have hl : (t.take n).length = n := by rw [List.length_take]; omega
      obtain ⟨t', r', g1, g2, g3, g4, g5⟩ := ih (t.take n) (rot r) hl (by omega) (by rw [rot_length h1]; exact h1) (by rw [rot_length h1]; exact h2) (fun d hd1 hd2 hp => by rw [rot_length h1] at hd2; exact h3 d hd1 hd2 (per_rot h1 hd1 hp))
      rw [rot_length h1] at g1 g5
      refine ⟨t', r', Ev.step (fun k => ?_) g1, g2, fun m => by rw [g3, has_rot ht h1 c], by omega, g5⟩
      simp only [impl_set_tidy.l1]
      rw [if_pos (by omega), e1, if_pos (by omega), if_pos (by omega), wrm1 h1 (by omega), if_pos (by omega), if_pos (by omega), rdOf_nat, rdOf_nat, if_pos (by rw [c]; simp), if_pos (by omega)]
      simp only [Option.bind_some]
      rw [if_pos (by omega)]
      rw [if_pos (by simp; omega), Int.toNat_natCast, Int.toNat_natCast, rot_append]
    · refine ⟨t, r, Ev.end fun k => ?_, ⟨h1, h3, fun m hm => (show n = m by omega) ▸ c⟩, fun m => rfl, Nat.le_refl _, Nat.le_refl _⟩
      simp only [impl_set_tidy.l1]
      rw [if_pos (by omega), e1, if_pos (by omega), if_pos (by omega), wrm1 h1 (by omega), if_pos (by omega), if_pos (by omega), rdOf_nat, rdOf_nat, if_neg (by simpa using c)]

theorem tidy_l0 (t r : List Bool) (ht : t.length ≤ 1073741824) (h1 : 0 < r.length) (h2 : r.length ≤ 1073741824) (m : Nat) : ∀ d, d + m = r.length → 1 ≤ d → (∀ e, 1 ≤ e → e < d → ¬ per r e) →
    ∃ t' r', Ev (fun k => impl_set_tidy.l0 k (d : Nat) t r) (t', r') ∧ Canon t' r' ∧ (∀ m, hasB t' r' m = hasB t r m) ∧ t'.length ≤ t.length ∧ r'.length ≤ r.length := by
  induction m with
  | zero =>
    intro d hd hd1 hno
    obtain ⟨b, hb, hb2⟩ := turns_ev r h2 d hd1 (by omega)
    have hp : per r d := ⟨by rw [show r.length = d from by omega]; exact Nat.mod_self d, fun i hi => by rw [Nat.mod_eq_of_lt (by omega)]⟩
    have hl : (r.take d).length = d := by rw [List.length_take]; omega
    obtain ⟨t', r', g1, g2, g3, g4, g5⟩ := tidy_l1 t.length t (r.take d) rfl ht (by omega) (by omega) (fun e he1 he2 hpe => hno e he1 (by omega) (per_take hd1 he1 (by omega) hp hpe))
    rw [hl] at g1 g5
    refine ⟨t', r', ?_, g2, fun m => by rw [g3, has_take hd1 h1 hp (by omega)], g4, by omega⟩
    refine Ev.step (f := fun k => (impl_turns.f k r d).bind fun x => if x = true then impl_set_tidy.l1 k d t (r.take d) else impl_set_tidy.l0 k (wrap64 (d + 1)) t r) (fun k => ?_) ?_
    · simp only [impl_set_tidy.l0, slices_Clone_bool_bool.f]
      rw [if_pos (by omega)]
      simp only [Option.bind_some]
      rw [if_pos (by omega), if_pos (by omega), Int.toNat_natCast, if_pos (by omega)]
      simp only [Option.bind_some]
    · exact Ev.bind hb (by simp only [if_pos (hb2.2 hp)]; exact g1)
  | succ m ih =>
    intro d hd hd1 hno
    obtain ⟨b, hb, hb2⟩ := turns_ev r h2 d hd1 (by omega)
    have hl : (r.take d).length = d := by rw [List.length_take]; omega
    have key : ∃ t' r', Ev (fun k => if b = true then impl_set_tidy.l1 k d t (r.take d) else impl_set_tidy.l0 k (wrap64 ((d : Nat) + 1)) t r) (t', r') ∧ Canon t' r' ∧ (∀ m, hasB t' r' m = hasB t r m) ∧ t'.length ≤ t.length ∧ r'.length ≤ r.length := by
      by_cases c : b = true
      · have hp := hb2.1 c
        obtain ⟨t', r', g1, g2, g3, g4, g5⟩ := tidy_l1 t.length t (r.take d) rfl ht (by omega) (by omega) (fun e he1 he2 hpe => hno e he1 (by omega) (per_take hd1 he1 (by omega) hp hpe))
        rw [hl] at g1 g5
        refine ⟨t', r', ?_, g2, fun m => by rw [g3, has_take hd1 h1 hp (by omega)], g4, by omega⟩
        simp only [if_pos c]
        exact g1
      · obtain ⟨t', r', g1, g2, g3, g4, g5⟩ := ih (d + 1) (by omega) (by omega) (fun e he1 he2 hpe => by
          rcases Nat.lt_or_ge e d with h | h
          · exact hno e he1 h hpe
          · obtain rfl : e = d := by omega
            exact c (hb2.2 hpe))
        refine ⟨t', r', ?_, g2, g3, g4, g5⟩
        simp only [if_neg c]
        rw [wr1 (by omega)]
        exact g1
    obtain ⟨t', r', g1, g2⟩ := key
    refine ⟨t', r', ?_, g2⟩
    refine Ev.step (f := fun k => (impl_turns.f k r d).bind fun x => if x = true then impl_set_tidy.l1 k d t (r.take d) else impl_set_tidy.l0 k (wrap64 (d + 1)) t r) (fun k => ?_) (Ev.bind hb g1)
    simp only [impl_set_tidy.l0, slices_Clone_bool_bool.f]
    rw [if_pos (by omega)]
    simp only [Option.bind_some]
    rw [if_pos (by omega), if_pos (by omega), Int.toNat_natCast, if_pos (by omega)]
    simp only [Option.bind_some]

theorem tidy_ev {t r : List Bool} (h : Good t r) : ∃ t' r', Ev (fun k => impl_set_tidy.f k t r) (t', r') ∧ Canon t' r' ∧ (∀ m, hasB t' r' m = hasB t r m) ∧ t'.length ≤ t.length ∧ r'.length ≤ r.length := by
  have h1 := h.pos
  have h2 := h.tl
  have h3 := h.rl
  exact tidy_l0 t r (by omega) h1 (by omega) (r.length - 1) 1 (by omega) (by omega) (fun e he1 he2 => by omega)

/-- 'comes again behind d' in the reference's words. -/
theorem per_steps (r : List Bool) (d : Nat) (hd : 1 ≤ d) : (∀ i, d ≤ i → i < r.length → r.getD i false = r.getD (i - d) false) ↔ ∀ i, i < r.length → r.getD i false = r.getD (i % d) false := by
  constructor
  · intro h i
    induction i using Nat.strongRecOn with
    | _ i ih =>
      intro hi
      rcases Nat.lt_or_ge i d with c | c
      · rw [Nat.mod_eq_of_lt c]
      · rw [h i c hi, ih (i - d) (by omega) (by omega), ← Nat.mod_eq_sub_mod c]
  · intro h i h1 h2
    rw [h i h2, h (i - d) (by omega), ← Nat.mod_eq_sub_mod h1]

/-- The reference's inner loop. -/
theorem less_l1 (t r : List Bool) (hr : r.length ≤ 1073741824) (d : Nat) (hd : 1 ≤ d) (hdl : d < r.length) (g : Bool → Nat → Option (List Bool × List Bool))
    (hgt : ∀ k, g true k = (spec_l1Less.f k t (r.take d)).bind fun x => some (x.1, x.2)) (hgf : ∀ k, g false k = spec_l1Less.l0 k (r.length : Int) ((d + 1 : Nat) : Int) t r) (res : List Bool × List Bool) (m : Nat) :
    ∀ i (b : Bool), i + m = r.length → d ≤ i → (b = true ↔ r.length % d = 0 ∧ ∀ j, d ≤ j → j < i → r.getD j false = r.getD (j - d) false) →
      (∀ c : Bool, (c = true ↔ r.length % d = 0 ∧ ∀ j, d ≤ j → j < r.length → r.getD j false = r.getD (j - d) false) → Ev (g c) res) → Ev (fun k => spec_l1Less.l1 k (r.length : Int) (d : Nat) b (i : Nat) t r) res := by
  induction m with
  | zero =>
    intro i b hi hdi hb hres
    obtain rfl : i = r.length := by omega
    refine Ev.step (fun k => ?_) (hres b hb)
    simp only [spec_l1Less.l1]
    rw [if_neg (by omega)]
    cases b with
    | true => rw [if_pos rfl, if_pos (by omega), if_pos (by omega), Int.toNat_natCast, hgt]
    | false => rw [if_neg (by simp), wr1 (by omega), hgf]
  | succ m ih =>
    intro i b hi hdi hb hres
    cases b with
    | true =>
      have h1 := hb.1 rfl
      have e : wrap64 ((i : Int) - (d : Int)) = ((i - d : Nat) : Int) := by rw [wr (by omega) (by omega)]; omega
      refine Ev.step (fun k => ?_) (ih (i + 1) (r.getD i false == r.getD (i - d) false) (by omega) (by omega) ?_ hres)
      · simp only [spec_l1Less.l1, if_true]
        rw [if_pos (by omega), if_pos (by omega), if_pos (by omega), e, if_pos (by omega), if_pos (by omega), rdOf_nat, rdOf_nat, wr1 (by omega)]
      · rw [beq_iff_eq]
        constructor
        · intro c
          refine ⟨h1.1, fun j hj1 hj2 => ?_⟩
          rcases Nat.lt_or_ge j i with h | h
          · exact h1.2 j hj1 h
          · obtain rfl : j = i := by omega
            exact c
        · intro c
          exact c.2 i hdi (by omega)
    | false =>
      refine Ev.step (fun k => ?_) (hres false ⟨fun h => (by cases h), fun h => (hb.2 ⟨h.1, fun j hj1 hj2 => h.2 j hj1 (by omega)⟩)⟩)
      simp only [spec_l1Less.l1]
      rw [if_pos (by omega), if_neg (by simp), wr1 (by omega), hgf]

theorem less_ev (n : Nat) : ∀ t r : List Bool, t.length + r.length = n → t.length ≤ 1073741824 → 0 < r.length → r.length ≤ 1073741824 →
    ∃ t' r', Ev (fun k => spec_l1Less.f k t r) (t', r') ∧ Canon t' r' ∧ (∀ m, hasB t' r' m = hasB t r m) ∧ t'.length ≤ t.length ∧ r'.length ≤ r.length := by
  induction n using Nat.strongRecOn with
  | _ n ih =>
    intro t r hn ht h1 h2
    have loop : ∀ m d, d + m = r.length → 1 ≤ d → (∀ e, 1 ≤ e → e < d → ¬ per r e) → ∃ t' r', Ev (fun k => spec_l1Less.l0 k (r.length : Int) (d : Nat) t r) (t', r') ∧ Canon t' r' ∧ (∀ m, hasB t' r' m = hasB t r m) ∧ t'.length ≤ t.length ∧ r'.length ≤ r.length := by
      intro m
      induction m with
      | zero =>
        intro d hd hd1 hno
        obtain rfl : d = r.length := by omega
        by_cases ct : t.length = 0
        · refine ⟨t, r, Ev.end fun k => ?_, ⟨h1, hno, fun m hm => by omega⟩, fun m => rfl, Nat.le_refl _, Nat.le_refl _⟩
          simp only [spec_l1Less.l0]
          rw [if_neg (by omega), if_neg (by omega)]
        · obtain ⟨q, hq⟩ : ∃ q, t.length = q + 1 := ⟨t.length - 1, by omega⟩
          have e1 : wrap64 ((t.length : Int) - 1) = (q : Nat) := by rw [wrm1 (by omega) (by omega)]; omega
          by_cases c : t.getD q false = r.getD (r.length - 1) false
          · have hl : (t.take q).length = q := by rw [List.length_take]; omega
            obtain ⟨t', r', g1, g2, g3, g4, g5⟩ := ih (q + r.length) (by omega) (t.take q) (rot r) (by rw [rot_length h1, hl]) (by omega) (by rw [rot_length h1]; exact h1) (by rw [rot_length h1]; exact h2)
            rw [rot_length h1] at g5
            refine ⟨t', r', Ev.step (f := fun k => (spec_l1Less.f k (t.take q) (rot r)).bind fun x => some (x.1, x.2)) (fun k => ?_) (Ev.bind g1 (Ev.now _)), g2, fun m => by rw [g3, has_rot hq h1 c], by omega, g5⟩
            simp only [spec_l1Less.l0]
            rw [if_neg (by omega), if_pos (by omega), e1, if_pos (by omega), if_pos (by omega), wrm1 h1 (by omega), if_pos (by omega), if_pos (by omega), rdOf_nat, rdOf_nat, if_pos (by rw [c]; simp)]
            simp only [Option.bind_some]
            rw [if_pos (by omega)]
            rw [if_pos (by simp; omega), if_pos (by omega), Int.toNat_natCast, Int.toNat_natCast, rot_append]
          · refine ⟨t, r, Ev.end fun k => ?_, ⟨h1, hno, fun m hm => (show q = m by omega) ▸ c⟩, fun m => rfl, Nat.le_refl _, Nat.le_refl _⟩
            simp only [spec_l1Less.l0]
            rw [if_neg (by omega), if_pos (by omega), e1, if_pos (by omega), if_pos (by omega), wrm1 h1 (by omega), if_pos (by omega), if_pos (by omega), rdOf_nat, rdOf_nat, if_neg (by simpa using c)]
      | succ m ihm =>
        intro d hd hd1 hno
        have hl : (r.take d).length = d := by rw [List.length_take]; omega
        have hstep : ∀ res, Ev (fun k => spec_l1Less.l1 k (r.length : Int) (d : Nat) (decide (r.length % d = 0)) (d : Nat) t r) res → Ev (fun k => spec_l1Less.l0 k (r.length : Int) (d : Nat) t r) res := by
          intro res hres
          refine Ev.step (fun k => ?_) hres
          simp only [spec_l1Less.l0]
          rw [if_pos (by omega), if_neg (by omega), tmod_nat]
          congr 1
          rw [Bool.eq_iff_iff]
          simp only [beq_iff_eq, decide_eq_true_eq]
          omega
        by_cases hp : per r d
        · obtain ⟨t', r', g1, g2, g3, g4, g5⟩ := ih (t.length + d) (by omega) t (r.take d) (by rw [hl]) ht (by omega) (by omega)
          refine ⟨t', r', hstep _ ?_, g2, fun m => by rw [g3, has_take hd1 h1 hp (by omega)], g4, by omega⟩
          refine less_l1 t r h2 d hd1 (by omega) (fun b k => if b = true then (spec_l1Less.f k t (r.take d)).bind fun x => some (x.1, x.2) else spec_l1Less.l0 k (r.length : Int) ((d + 1 : Nat) : Int) t r) (fun k => if_pos rfl) (fun k => if_neg (by simp)) (t', r') m.succ d (decide (r.length % d = 0)) (by omega) (Nat.le_refl _) ?_ ?_
          · rw [decide_eq_true_eq]
            exact ⟨fun h => ⟨h, fun j a b => by omega⟩, fun h => h.1⟩
          · intro c hc
            have : c = true := hc.2 ⟨hp.1, (per_steps r d hd1).2 hp.2⟩
            subst this
            simp only [if_true]
            exact Ev.bind g1 (Ev.now _)
        · obtain ⟨t', r', g1, g2, g3, g4, g5⟩ := ihm (d + 1) (by omega) (by omega) (fun e he1 he2 hpe => by
            rcases Nat.lt_or_ge e d with h | h
            · exact hno e he1 h hpe
            · obtain rfl : e = d := by omega
              exact hp hpe)
          refine ⟨t', r', hstep _ ?_, g2, g3, g4, g5⟩
          refine less_l1 t r h2 d hd1 (by omega) (fun b k => if b = true then (spec_l1Less.f k t (r.take d)).bind fun x => some (x.1, x.2) else spec_l1Less.l0 k (r.length : Int) ((d + 1 : Nat) : Int) t r) (fun k => if_pos rfl) (fun k => if_neg (by simp)) (t', r') m.succ d (decide (r.length % d = 0)) (by omega) (Nat.le_refl _) ?_ ?_
          · rw [decide_eq_true_eq]
            exact ⟨fun h => ⟨h, fun j a b => by omega⟩, fun h => h.1⟩
          · intro c hc
            have : ¬ c = true := fun h => hp ⟨(hc.1 h).1, (per_steps r d hd1).1 (hc.1 h).2⟩
            simp only [if_neg this]
            exact g1
    obtain ⟨t', r', g1, g2⟩ := loop (r.length - 1) 1 (by omega) (by omega) (fun e he1 he2 => by omega)
    exact ⟨t', r', Ev.step (fun k => by simp only [spec_l1Less.f]; rfl) g1, g2⟩

/-- The tidy form of a set, for both. -/
structure Tidied (t r t' r' : List Bool) : Prop where
  impl : Ev (fun k => impl_set_tidy.f k t r) (t', r')
  spec : Ev (fun k => spec_l1Less.f k t r) (t', r')
  canon : Canon t' r'
  same : ∀ n, hasB t' r' n = hasB t r n
  good : Good t' r'
  tle : t'.length ≤ t.length
  rle : r'.length ≤ r.length
theorem tidied {t r : List Bool} (h : Good t r) : ∃ t' r', Tidied t r t' r' := by
  have h1 := h.pos
  have h2 := h.tl
  have h3 := h.rl
  obtain ⟨t', r', g1, g2, g3, g4, g5⟩ := tidy_ev h
  obtain ⟨t2, r2, k1, k2, k3, k4, k5⟩ := less_ev (t.length + r.length) t r rfl (by omega) h1 (by omega)
  obtain ⟨rfl, rfl⟩ := canon_unique g2 k2 (fun n => by rw [g3, k3])
  exact ⟨t', r', g1, k1, g2, g3, ⟨g2.pos, by omega, by omega⟩, g4, g5⟩


structure IsSmall (s : ByteArray) (t r : List Bool) : Prop where
  orig : ∃ t0 r0, IsSet s t0 r0 ∧ Tidied t0 r0 t r
  good : Good t r
  tl : t.length ≤ 8
  rl : r.length ≤ 8
  impl : Ev (fun k => impl_small.f k s) (t, r, true)
  spec : Ev (fun k => spec_l4Small.f k s) (t, r, true)
structure NoSmall (s : ByteArray) : Prop where
  impl : ∃ a b, Ev (fun k => impl_small.f k s) (a, b, false)
  spec : ∃ a b, Ev (fun k => spec_l4Small.f k s) (a, b, false)
theorem small_cases (s : ByteArray) (hs : s.size ≤ 1073741824) : NoSmall s ∨ ∃ t r, IsSmall s t r := by
  rcases read_cases s hs with h | ⟨t0, r0, h⟩
  · left
    obtain ⟨⟨a, b, ha⟩, ⟨a', b', hb⟩⟩ := h
    refine ⟨⟨[], [], ?_⟩, ⟨a', b', ?_⟩⟩
    · unfold impl_small.f impl_tidied.f
      rw [ha]; simp only [Option.bind_some, Bool.false_eq_true, if_false]
      exact Ev.now _
    · unfold spec_l4Small.f
      refine Ev.bind hb ?_
      simp only [Bool.false_eq_true, if_false]
      exact Ev.now _
  · obtain ⟨t, r, hT⟩ := tidied h.good
    have hi : Ev (fun k => impl_small.f k s) (t, r, decide ((t.length : Int) ≤ 8) && decide ((r.length : Int) ≤ 8)) := by
      unfold impl_small.f impl_tidied.f
      rw [h.impl]; simp only [Option.bind_some, if_true]
      refine Ev.bind (a := (t, r, true)) (Ev.bind hT.impl (Ev.now _)) (Ev.const fun k => ?_)
      rw [if_pos rfl]
      by_cases c : (t.length : Int) ≤ 8
      · rw [if_pos c, decide_eq_true c]; rfl
      · rw [if_neg c, decide_eq_false c]; rfl
    have hs : Ev (fun k => spec_l4Small.f k s) (t, r, decide ((t.length : Int) ≤ 8) && decide ((r.length : Int) ≤ 8)) := by
      unfold spec_l4Small.f
      refine Ev.bind h.spec ?_
      simp only [if_true]
      refine Ev.bind hT.spec (Ev.const fun k => ?_)
      by_cases c : (t.length : Int) ≤ 8
      · rw [if_pos c, decide_eq_true c]; rfl
      · rw [if_neg c, decide_eq_false c]; rfl
    by_cases c : t.length ≤ 8 ∧ r.length ≤ 8
    · right
      rw [decide_eq_true (by omega), decide_eq_true (by omega)] at hi hs
      exact ⟨t, r, ⟨t0, r0, h, hT⟩, hT.good, c.1, c.2, hi, hs⟩
    · left
      have : (decide ((t.length : Int) ≤ 8) && decide ((r.length : Int) ≤ 8)) = false := by
        by_cases c1 : t.length ≤ 8
        · rw [decide_eq_false (show ¬ (r.length : Int) ≤ 8 by omega), Bool.and_false]
        · rw [decide_eq_false (show ¬ (t.length : Int) ≤ 8 by omega), Bool.false_and]
      rw [this] at hi hs
      exact ⟨⟨t, r, hi⟩, ⟨t, r, hs⟩⟩
theorem IsSmall.has {s : ByteArray} {t r : List Bool} (h : IsSmall s t r) : ∃ t0 r0, IsSet s t0 r0 ∧ ∀ n, hasB t0 r0 n = hasB t r n := by
  obtain ⟨t0, r0, h1, h2⟩ := h.orig
  exact ⟨t0, r0, h1, fun n => (h2.same n).symm⟩

theorem getD_set_ne (l : List Bool) {i j : Nat} (v : Bool) (h : i ≠ j) : (l.set i v).getD j false = l.getD j false := by simp [List.getD, h]
theorem in_eq' (a b c : Int) : impl_in.f a b c = some (decide (b ≤ a ∧ a ≤ c)) := by
  unfold impl_in.f
  by_cases h : b ≤ a
  · rw [if_pos h]; simp [h]
  · rw [if_neg (by omega), decide_eq_false (by omega)]
theorem l6In_eq' (a b c : Int) : spec_l6In.f a b c = some (decide (b ≤ a ∧ a ≤ c)) := by
  unfold spec_l6In.f
  by_cases h : b ≤ a
  · rw [if_pos h]; simp [h]
  · rw [if_neg (by omega), decide_eq_false (by omega)]


theorem wrs {a b : Nat} (h : b ≤ a) (ha : a ≤ 4611686018427387904) : wrap64 ((a : Int) - (b : Int)) = ((a - b : Nat) : Int) := by rw [wr (by omega) (by omega)]; omega

/-- A list that tells f up to its length. -/
structure Tells (l : List Bool) (f : Nat → Bool) (m : Nat) : Prop where
  len : l.length = m
  get : ∀ j, j < m → l.getD j false = f j

theorem l1Divisor_ev (b : Nat) : ∀ a : Nat, Ev (fun k => spec_l1Divisor.f k (a : Int) (b : Int)) ((Nat.gcd a b : Nat) : Int) := by
  induction b using Nat.strongRecOn with
  | _ b ih =>
    intro a
    by_cases c : b = 0
    · subst c
      refine Ev.end fun k => ?_
      simp only [spec_l1Divisor.f, spec_l1Divisor.l0]
      rw [if_neg (by omega), Nat.gcd_zero_right]
    · have h1 := ih (a % b) (Nat.mod_lt _ (by omega)) b
      rw [Nat.gcd_comm b, ← Nat.gcd_rec, Nat.gcd_comm] at h1
      refine Ev.step (fun k => ?_) h1
      simp only [spec_l1Divisor.f, spec_l1Divisor.l0]
      rw [if_pos (by omega), if_neg (by omega), tmod_nat]



theorem mx_nat' (a b : Nat) : mx (a : Int) (b : Int) = ((max a b : Nat) : Int) := by unfold mx; split <;> omega

theorem sums_l0 {ta ra tc rc : List Bool} (ha : Good ta ra) (hc : Good tc rc) (n : Nat) (hn : n ≤ 1000000) (d : Nat) : ∀ q, q + d = n + 1 → (∀ y, y < q → ¬ (hasB ta ra y = true ∧ hasB tc rc (n - y) = true)) → Ev (fun k => impl_sums.l0 k n ((n + 1 : Nat) : Int) (q : Nat) ta ra tc rc) (sumB (hasB ta ra) (hasB tc rc) n) := by
  induction d with
  | zero =>
    intro q hq hno
    have : sumB (hasB ta ra) (hasB tc rc) n = false := by
      cases e : sumB (hasB ta ra) (hasB tc rc) n with
      | false => rfl
      | true =>
        obtain ⟨y, a, b⟩ := (sumB_iff _ _ _).1 e
        exact absurd b (hno y (by omega))
    rw [this]
    refine Ev.end fun k => ?_
    simp only [impl_sums.l0]
    rw [if_neg (by omega)]
  | succ d ih =>
    intro q hq hno
    have hw : wrap64 ((n : Int) - (q : Int)) = ((n - q : Nat) : Int) := wrs (by omega) (by omega)
    have h1 : impl_set_has.f ta ra q = some (hasB ta ra q) := set_has ha q (by omega)
    have h2 : impl_set_has.f tc rc ((n - q : Nat) : Int) = some (hasB tc rc (n - q)) := set_has hc (n - q) (by omega)
    have hlt : (q : Int) < ((n + 1 : Nat) : Int) := by omega
    by_cases c1 : hasB ta ra q = true
    · by_cases c2 : hasB tc rc (n - q) = true
      · have : sumB (hasB ta ra) (hasB tc rc) n = true := (sumB_iff _ _ _).2 ⟨q, by omega, c1, c2⟩
        rw [this]
        refine Ev.end fun k => ?_
        simp only [impl_sums.l0, if_pos hlt, h1, Option.bind_some, if_pos c1, hw, h2, if_pos c2]
      · refine Ev.step (fun k => ?_) (ih (q + 1) (by omega) fun y hy => ?_)
        · simp only [impl_sums.l0, if_pos hlt, h1, Option.bind_some, if_pos c1, hw, h2, if_neg c2, wr1 (show q ≤ 4611686018427387904 by omega)]
        · rcases Nat.lt_or_ge y q with e | e
          · exact hno y e
          · obtain rfl : y = q := by omega
            exact fun h => c2 h.2
    · refine Ev.step (fun k => ?_) (ih (q + 1) (by omega) fun y hy => ?_)
      · simp only [impl_sums.l0, if_pos hlt, h1, Option.bind_some, if_neg c1, wr1 (show q ≤ 4611686018427387904 by omega)]
      · rcases Nat.lt_or_ge y q with e | e
        · exact hno y e
        · obtain rfl : y = q := by omega
          exact fun h => c1 h.1
theorem sums_ev {ta ra tc rc : List Bool} (ha : Good ta ra) (hc : Good tc rc) (n : Nat) (hn : n ≤ 1000000) : Ev (fun k => impl_sums.f k ta ra tc rc n) (sumB (hasB ta ra) (hasB tc rc) n) := by
  unfold impl_sums.f
  rw [wr1 (by omega)]
  exact sums_l0 ha hc n hn (n + 1) 0 (by omega) (fun y hy => absurd hy (Nat.not_lt_zero y))
theorem lcm_eq (p q : Nat) : p / Nat.gcd p q * q = Nat.lcm p q := by
  unfold Nat.lcm
  rw [Nat.mul_comm p q, Nat.mul_div_assoc _ (Nat.gcd_dvd_left p q), Nat.mul_comm]
theorem shape_ev {ta ra tc rc : List Bool} (ha : Good ta ra) (hc : Good tc rc) : Ev (fun k => spec_l1Shape.f k ta ra tc rc) (((max ta.length tc.length : Nat) : Int), ((Nat.lcm ra.length rc.length : Nat) : Int)) := by
  have hg : 0 < Nat.gcd ra.length rc.length := Nat.gcd_pos_of_pos_left _ ha.pos
  have hd := Nat.div_le_self ra.length (Nat.gcd ra.length rc.length)
  have h1 := ha.rl
  have h2 := hc.rl
  have hm : ra.length / Nat.gcd ra.length rc.length * rc.length ≤ 60 * 60 := Nat.mul_le_mul (by omega) h2
  have he := lcm_eq ra.length rc.length
  unfold spec_l1Shape.f
  refine Ev.bind (l1Divisor_ev rc.length ra.length) (Ev.const fun k => ?_)
  rw [if_neg (by omega), mx_nat', ← Int.natCast_ediv]
  generalize Nat.gcd ra.length rc.length = g at *
  generalize ra.length / g = p at *
  rw [wr (x := (p : Int)) (by omega) (by omega), ← Int.natCast_mul, he, wr (by omega) (by omega)]
end Go.Proofs.Ytpkpgdlbgcjloaa.Q

namespace Go.Proofs.Ytpkpgdlbgcjloaa.Q
open Go.RowKit Go.Proofs.YtpkpgdlbgcjloaaW.PrintWords Go.Proofs.YtpkpgdlbgcjloaaW.PrintLast Go.Proofs.YtpkpgdlbgcjloaaW.PrintMore
open Go.Proofs.Ytpkpgdlbgcjloaa.Pl (hasB)
set_option linter.unusedVariables false
set_option linter.unusedSimpArgs false
theorem read_yes (s : ByteArray) (hs : s.size ≤ 1073741824) (i : Nat) (h1 : i < s.data.toList.length) (h2 : Lib.indexByte s.data.toList 40 = i) (h3 : s.data.toList.getD i 0 = 40) (h4 : ∀ j, j < i → s.data.toList.getD j 0 ≠ 40)
    (c1 : i + 2 < s.size) (c2 : s.data.toList.getD (s.size - 1) 0 = 41) (o1 : okL (s.extract 0 i).data.toList = true) (o2 : okL (s.extract (i + 1) (s.size - 1)).data.toList = true) (q : i ≤ 60 ∧ s.size - i - 2 ≤ 60) :
    IsSet s ((s.extract 0 i).data.toList.map (· == 49)) ((s.extract (i + 1) (s.size - 1)).data.toList.map (· == 49)) := by
  have hl := size_data s
  have hsg := fun (x : ByteArray) (hx : x.size ≤ 1073741824) => signs_ev x hx
  have hi : i < s.size := by omega
  have hc : strings_Cut.f s ⟨#[40]⟩ = some (s.extract 0 i, s.extract (i + 1) s.size, true) := by
    unfold strings_Cut.f stringslite_Cut.f stringslite_Index.f
    rw [dif_pos (by rfl)]
    show ((some (Lib.indexByte s.data.toList 40)).bind _).bind _ = _
    rw [h2]
    simp only [Option.bind_some]
    have hz : ((⟨#[40]⟩ : ByteArray).size : Int) = 1 := rfl
    rw [if_pos (by omega), if_pos (by omega), if_pos (by omega), hz, wr (by omega) (by omega), if_pos (by omega), if_pos (by omega)]
    simp only [Option.bind_some, Int.toNat_natCast]
    rw [show ((i : Int) + 1).toNat = i + 1 from by omega]
  have hz1 : (s.extract (i + 1) s.size).size = s.size - (i + 1) := ext_size _ _ _ (Nat.le_refl _)
  have h41 : ((⟨#[41]⟩ : ByteArray).size : Int) = 1 := rfl
  have hsuf : strings_CutSuffix.f (s.extract (i + 1) s.size) ⟨#[41]⟩ = some (if i + 1 < s.size ∧ s.data.toList.getD (s.size - 1) 0 = 41 then (s.extract (i + 1) (s.size - 1), true) else (s.extract (i + 1) s.size, false)) := by
    unfold strings_CutSuffix.f stringslite_CutSuffix.f stringslite_HasSuffix.f
    rw [h41]
    by_cases c : i + 1 < s.size
    · rw [if_pos (by omega), wr (by omega) (by omega), if_pos (by omega), if_pos (by omega), show (((s.extract (i + 1) s.size).size : Int) - 1).toNat = (s.extract (i + 1) s.size).size - 1 from by omega, last_eq c, ring_eq c]
      simp only [Option.bind_some]
      have hb : ([s.data.toList.getD (s.size - 1) 0] == (⟨#[41]⟩ : ByteArray).toList) = decide (s.data.toList.getD (s.size - 1) 0 = 41) := by
        rw [toList_eq, Bool.eq_iff_iff]; simp
      rw [hb]
      by_cases e : s.data.toList.getD (s.size - 1) 0 = 41
      · rw [decide_eq_true e, if_pos rfl, if_pos (by omega), if_pos (by omega), if_pos ⟨c, e⟩]; rfl
      · rw [decide_eq_false e, if_neg (by simp), if_neg (by intro h; exact e h.2)]; rfl
    · rw [if_neg (by omega)]
      simp only [Option.bind_some, Bool.false_eq_true, if_false]
      rw [if_neg (fun h => c h.1)]
  have hspec : ∀ (r : List Bool × List Bool × Bool), Ev (fun k => spec_l1Read.j1 k s i [] [false]) r → Ev (fun k => spec_l1Read.f k s) r := by
    intro r hr
    exact read_l0 s hs [] [false] i (by omega) (fun j hj => h4 j hj) (fun _ => h3) hr i 0 (by omega)
  have hnull : ∀ x : Bool, x = true → Ev (fun k => spec_l1Read.j2 k s (i : Nat) x [] [false]) (([] : List Bool), [false], false) := by
    intro x hx
    refine Ev.end fun k => ?_
    simp only [spec_l1Read.j2]
    rw [if_pos hx]
  -- for the reader's bracket at the end
  have hj1 : ∀ r, Ev (fun k => spec_l1Read.j2 k s (i : Nat) (decide (s.size ≤ i + 2) || s.data.toList.getD (s.size - 1) 0 != 41) [] [false]) r → Ev (fun k => spec_l1Read.j1 k s i [] [false]) r := by
    intro r hr
    refine Ev.step (fun k => ?_) hr
    simp only [spec_l1Read.j1]
    rw [wr (x := (i : Int) + 2) (by omega) (by omega), wr (x := (s.size : Int) - 1) (by omega) (by omega)]
    by_cases c : s.size ≤ i + 2
    · rw [if_pos (by omega)]; simp [c]
    · rw [if_neg (by omega), if_pos (by omega), if_pos (by omega)]
      rw [show (s.size : Int) - 1 = ((s.size - 1 : Nat) : Int) from by omega]
      congr 1
      simp only [c, decide_false, Bool.false_or]
      have := bt_is s (s.size - 1) (by omega) 41 41 rfl
      rw [Bool.eq_iff_iff]; simp only [bne_iff_ne, ne_eq, this]
  rw [if_pos ⟨by omega, c2⟩] at hsuf
  have e1 := hsg (s.extract 0 i) (by rw [ext_size _ _ _ (by omega)]; omega)
  have e2 := hsg (s.extract (i + 1) (s.size - 1)) (by rw [ext_size _ _ _ (by omega)]; omega)
  have g1 := l1Signs_ev (s.extract 0 i) (by rw [ext_size _ _ _ (by omega)]; omega)
  have g2 := l1Signs_ev (s.extract (i + 1) (s.size - 1)) (by rw [ext_size _ _ _ (by omega)]; omega)
  have z1 : (s.extract 0 i).size = i := by rw [ext_size _ _ _ (by omega)]; omega
  have z2 : (s.extract (i + 1) (s.size - 1)).size = s.size - i - 2 := by rw [ext_size _ _ _ (by omega)]; omega
  have y1 := size_data (s.extract 0 i)
  have y2 := size_data (s.extract (i + 1) (s.size - 1))
  rw [z1] at e1 y1
  rw [z2] at e2 y2
  have himpl : impl_setOf.f s = (impl_signs.f (s.extract 0 i)).bind fun x => (impl_signs.f (s.extract (i + 1) (s.size - 1))).bind fun y => some (x.1, y.1, x.2 && y.2 && decide ((y.1.length : Int) > 0)) := by
    unfold impl_setOf.f
    rw [hc]; simp only [Option.bind_some]
    rw [hsuf]; simp only [Option.bind_some]
    congr 1; funext x; congr 1; funext y
    cases x.2 <;> cases y.2 <;> simp
  have hj2 : ∀ (x y : List Bool × Bool), Ev (fun k => spec_l1Signs.f k (s.extract 0 i)) x → Ev (fun k => spec_l1Signs.f k (s.extract (i + 1) (s.size - 1))) y →
      Ev (fun k => spec_l1Read.f k s) (if x.2 && y.2 && decide (x.1.length ≤ 60) && decide (y.1.length ≤ 60) then (x.1, y.1, true) else ([], [false], false)) := by
    intro x y hx hy
    refine hspec _ (hj1 _ ?_)
    have : (decide (s.size ≤ i + 2) || s.data.toList.getD (s.size - 1) 0 != 41) = false := by rw [c2]; simp; omega
    rw [this]
    refine Ev.step (f := fun k => (spec_l1Signs.f k (s.extract 0 i)).bind fun bt121 => (spec_l1Signs.f k (s.extract (i + 1) (s.size - 1))).bind fun bt125 => (if bt121.2 = true then (if bt125.2 = true then (if (bt121.1.length : Int) > 60 then (some (([] : List Bool), [false], false)) else (if (bt125.1.length : Int) > 60 then (some ([], [false], false)) else (some (bt121.1, bt125.1, true)))) else (some ([], [false], false))) else (some ([], [false], false)))) (fun k => ?_) ?_
    · simp only [spec_l1Read.j2]
      rw [if_neg (by simp), if_pos (by omega), if_pos (by omega), wr (x := (i : Int) + 1) (by omega) (by omega), wr (x := (s.size : Int) - 1) (by omega) (by omega)]
      simp only [if_pos (show (0 : Int) ≤ (i : Int) + 1 from by omega), if_pos (show (i : Int) + 1 ≤ (s.size : Int) - 1 from by omega), if_pos (show (s.size : Int) - 1 ≤ (s.size : Int) from by omega)]
      rw [Int.toNat_natCast, show ((i : Int) + 1).toNat = i + 1 from by omega, show ((s.size : Int) - 1).toNat = s.size - 1 from by omega]
    · refine Ev.bind hx (Ev.bind hy (Ev.const fun k => ?_))
      obtain ⟨x1, x2⟩ := x
      obtain ⟨y1, y2⟩ := y
      cases x2 <;> cases y2 <;> simp
      by_cases q1 : x1.length ≤ 60
      · by_cases q2 : y1.length ≤ 60
        · rw [if_neg (by omega), if_neg (by omega), if_pos ⟨q1, q2⟩]
        · rw [if_neg (by omega), if_pos (by omega), if_neg (by omega)]
      · rw [if_pos (by omega), if_neg (by omega)]
  have hfin := hj2 _ _ g1 g2
  rw [e1, e2] at himpl
  simp only [Option.bind_some] at himpl
  rw [o1, o2] at himpl hfin
  simp only [if_true, List.length_map, Bool.and_self, Bool.true_and] at himpl hfin
  rw [y1, y2] at hfin
  rw [y2] at himpl
  refine ⟨⟨?_, by rw [List.length_map]; omega, by rw [List.length_map]; omega⟩, himpl.trans ?_, ?_⟩
  · rw [List.length_map]; omega
  · rw [decide_eq_true (show ((i : Nat) : Int) ≤ 60 from by omega), decide_eq_true (show (((s.size - i - 2 : Nat) : Int) ≤ 60) from by omega), decide_eq_true (show (((s.size - i - 2 : Nat) : Int) > 0) from by omega)]
    rfl
  · rw [decide_eq_true q.1, decide_eq_true q.2] at hfin
    exact hfin

/-- The signs of a list. -/
def tell (l : List Bool) : List UInt8 := l.map fun b => if b = true then 49 else 48
theorem tell_length (l : List Bool) : (tell l).length = l.length := by simp [tell]
theorem tell_back (l : List Bool) : (tell l).map (· == 49) = l := by
  induction l with
  | nil => rfl
  | cons b l ih => cases b <;> simp [tell] at * <;> exact ih
theorem tell_ok (l : List Bool) : okL (tell l) = true := by
  induction l with
  | nil => rfl
  | cons b l ih => cases b <;> simp [tell, okL] at * <;> exact ih
theorem tell_ne (l : List Bool) (j : Nat) (h : j < l.length) : (tell l).getD j 0 ≠ 40 := by
  simp only [tell, List.getD, List.getElem?_map, List.getElem?_eq_getElem h, Option.map_some, Option.getD_some]
  split <;> decide
/-- The text of a tail and a ring. -/
def textL (t r : List Bool) : List UInt8 := tell t ++ 40 :: (tell r ++ [41])
def text (t r : List Bool) : ByteArray := ⟨(textL t r).toArray⟩
theorem textL_length (t r : List Bool) : (textL t r).length = t.length + r.length + 2 := by simp [textL, tell_length]; omega
theorem text_size (t r : List Bool) : (text t r).size = t.length + r.length + 2 := textL_length t r
theorem text_isSet {t r : List Bool} (h : Good t r) : IsSet (text t r) t r := by
  have h1 := h.pos
  have h2 := h.tl
  have h3 := h.rl
  have hz := text_size t r
  have hd : (text t r).data.toList = textL t r := rfl
  have hget : (textL t r).getD t.length 0 = 40 := by
    simp [textL, List.getD, tell_length]
  have hne : ∀ j, j < t.length → (textL t r).getD j 0 ≠ 40 := by
    intro j hj
    have := tell_ne t j hj
    simp only [textL, List.getD] at this ⊢
    rw [List.getElem?_append_left (by rw [tell_length]; exact hj)]
    exact this
  have hlast : (textL t r).getD ((text t r).size - 1) 0 = 41 := by
    rw [hz]
    simp only [textL, List.getD]
    rw [List.getElem?_append_right (by rw [tell_length]; omega), tell_length]
    rw [show t.length + r.length + 2 - 1 - t.length = r.length + 1 from by omega, List.getElem?_cons_succ, List.getElem?_append_right (by rw [tell_length]; omega), tell_length, Nat.sub_self]
    rfl
  have hidx : Lib.indexByte (text t r).data.toList 40 = (t.length : Int) := by
    rcases index_cases (text t r).data.toList 40 with ⟨_, g⟩ | ⟨i, g1, g2, g3, g4⟩
    · exact absurd hget (g t.length (by rw [hd, textL_length]; omega))
    · have : i = t.length := by
        rcases Nat.lt_trichotomy i t.length with c | c | c
        · exact absurd g3 (hne i c)
        · exact c
        · exact absurd hget (g4 t.length c)
      rw [g2, this]
  have x1 : ((text t r).extract 0 t.length).data.toList = tell t := by
    rw [ext_list, hd, List.drop_zero]
    simp [textL, tell_length]
  have x2 : ((text t r).extract (t.length + 1) ((text t r).size - 1)).data.toList = tell r := by
    rw [ext_list, hd, hz]
    have e : textL t r = tell t ++ [40] ++ tell r ++ [41] := by simp [textL]
    rw [e, show t.length + r.length + 2 - 1 = (tell t ++ [40] ++ tell r).length from by simp [tell_length]; omega, List.take_left' rfl, List.append_assoc, ← List.append_assoc]
    exact List.drop_left' (by simp [tell_length])
  have := read_yes (text t r) (by omega) t.length (by rw [hd, textL_length]; omega) hidx hget hne (by omega) hlast (by rw [x1]; exact tell_ok t) (by rw [x2]; exact tell_ok r) ⟨by omega, by omega⟩
  rw [x1, x2, tell_back, tell_back] at this
  exact this
end Go.Proofs.Ytpkpgdlbgcjloaa.Q

namespace Go.Proofs.Ytpkpgdlbgcjloaa.Q
open Go.RowKit Go.Proofs.YtpkpgdlbgcjloaaW.PrintWords Go.Proofs.YtpkpgdlbgcjloaaW.PrintLast Go.Proofs.YtpkpgdlbgcjloaaW.PrintMore
open Go.Proofs.Ytpkpgdlbgcjloaa.Pl
set_option linter.unusedVariables false
set_option linter.unusedSimpArgs false
/-- What is told of a set: the text of its tidy form, if this is not too long. -/
def Told (f : Nat → Bool) (x : ByteArray × Bool) : Prop := ∃ t r, Canon t r ∧ (∀ n, hasB t r n = f n) ∧ x = if t.length ≤ 60 ∧ r.length ≤ 60 then (text t r, true) else ((⟨#[]⟩ : ByteArray), false)
theorem Told.unique {f : Nat → Bool} {x y : ByteArray × Bool} (h : Told f x) (k : Told f y) : x = y := by
  obtain ⟨t, r, h1, h2, rfl⟩ := h
  obtain ⟨t', r', k1, k2, rfl⟩ := k
  obtain ⟨rfl, rfl⟩ := canon_unique h1 k1 (fun n => by rw [h2, k2])
  rfl
theorem Told.congr {f g : Nat → Bool} {x : ByteArray × Bool} (h : Told f x) (e : ∀ n, f n = g n) : Told g x := by
  obtain ⟨t, r, h1, h2, h3⟩ := h
  exact ⟨t, r, h1, fun n => by rw [h2, e], h3⟩
theorem Told.yes {f : Nat → Bool} {x : ByteArray × Bool} (h : Told f x) (e : x.2 = true) : ∃ t r, Canon t r ∧ Good t r ∧ (∀ n, hasB t r n = f n) ∧ x = (text t r, true) := by
  obtain ⟨t, r, h1, h2, rfl⟩ := h
  by_cases c : t.length ≤ 60 ∧ r.length ≤ 60
  · exact ⟨t, r, h1, ⟨h1.pos, c.1, c.2⟩, h2, by rw [if_pos c]⟩
  · rw [if_neg c] at e; cases e
theorem Told.no {f : Nat → Bool} {x : ByteArray × Bool} (h : Told f x) (e : x.2 = false) : x = ((⟨#[]⟩ : ByteArray), false) := by
  obtain ⟨t, r, h1, h2, rfl⟩ := h
  by_cases c : t.length ≤ 60 ∧ r.length ≤ 60
  · rw [if_pos c] at e; cases e
  · rw [if_neg c]
theorem Told.of {f : Nat → Bool} {t r : List Bool} (h : Canon t r) (g : Good t r) (e : ∀ n, hasB t r n = f n) : Told f (text t r, true) := ⟨t, r, h, e, by rw [if_pos ⟨g.tl, g.rl⟩]⟩

theorem tidied_long {t r : List Bool} (ht : t.length ≤ 1073741824) (h1 : 0 < r.length) (h2 : r.length ≤ 1073741824) : ∃ t' r', Ev (fun k => impl_set_tidy.f k t r) (t', r') ∧ Ev (fun k => spec_l1Less.f k t r) (t', r') ∧ Canon t' r' ∧ (∀ n, hasB t' r' n = hasB t r n) := by
  obtain ⟨t', r', g1, g2, g3, g4, g5⟩ := tidy_l0 t r ht h1 h2 (r.length - 1) 1 (by omega) (by omega) (fun e he1 he2 => by omega)
  obtain ⟨t2, r2, k1, k2, k3, k4, k5⟩ := less_ev (t.length + r.length) t r rfl ht h1 h2
  obtain ⟨rfl, rfl⟩ := canon_unique g2 k2 (fun n => by rw [g3, k3])
  exact ⟨t', r', g1, k1, g2, g3⟩

theorem told_eq (l : List Bool) (h : l.length ≤ 1000000) : impl_told.f l = some ⟨(tell l).toArray⟩ := by
  unfold impl_told.f
  rw [if_pos (by omega)]
  rfl
theorem tell_size (l : List Bool) : (⟨(tell l).toArray⟩ : ByteArray).size = l.length := tell_length l
theorem ba_ext {a b : ByteArray} (h : a.data.toList = b.data.toList) : a = b := by
  obtain ⟨⟨a⟩⟩ := a; obtain ⟨⟨b⟩⟩ := b; simp at h; simp [h]
theorem ba_append (a b : ByteArray) : (a ++ b).data.toList = a.data.toList ++ b.data.toList := by simp
theorem text_eq (t r : List Bool) : (((⟨(tell t).toArray⟩ : ByteArray) ++ (⟨#[40]⟩ : ByteArray)) ++ (⟨(tell r).toArray⟩ : ByteArray)) ++ (⟨#[41]⟩ : ByteArray) = text t r := by
  refine ba_ext ?_
  rw [ba_append, ba_append, ba_append]
  simp [text, textL]
theorem text_ev {t r : List Bool} (ht : t.length ≤ 60) (hr : r.length ≤ 60) : Ev (fun k => impl_set_text.f k t r) (text t r, true) := by
  unfold impl_set_text.f
  refine Ev.eq (funext fun k => if_neg (by omega)) ?_
  rw [decide_eq_false (by omega)]
  refine Ev.end fun k => ?_
  simp only [impl_set_text.j0, Bool.false_eq_true, if_false]
  rw [told_eq t (by omega), told_eq r (by omega)]
  simp only [Option.bind_some, tell_size]
  rw [if_pos (by omega), if_pos (by omega), if_pos (by omega), text_eq]
theorem text_no {t r : List Bool} (h : ¬ (t.length ≤ 60 ∧ r.length ≤ 60)) : Ev (fun k => impl_set_text.f k t r) ((⟨#[]⟩ : ByteArray), false) := by
  have go : Ev (fun k => impl_set_text.j0 k true t r) ((⟨#[]⟩ : ByteArray), false) := Ev.end fun k => by simp only [impl_set_text.j0, if_true]
  unfold impl_set_text.f
  by_cases c : (t.length : Int) > 60
  · exact Ev.eq (funext fun k => if_pos c) go
  · refine Ev.eq (funext fun k => if_neg c) ?_
    rw [decide_eq_true (by omega)]
    exact go
theorem text_told {t r : List Bool} (h : Canon t r) : ∃ x, Ev (fun k => impl_set_text.f k t r) x ∧ Told (hasB t r) x := by
  by_cases c : t.length ≤ 60 ∧ r.length ≤ 60
  · exact ⟨_, text_ev c.1 c.2, t, r, h, fun _ => rfl, by rw [if_pos c]⟩
  · exact ⟨_, text_no c, t, r, h, fun _ => rfl, by rw [if_neg c]⟩

def num (b : Bool) : Int := if b = true then 49 else 48
theorem write_step (b : Bool) {α : Type} (g : Int → Option α) : ((spec_l1Bit.f b).bind fun x => if 0 ≤ x then (if x < 2 then g (bt (⟨#[48, 49]⟩ : ByteArray) x) else none) else none) = g (num b) := by
  cases b <;> rfl
theorem write_l1 (t r : List Bool) (hr : r.length ≤ 1000000) (acc : List Int) (hacc : acc.length ≤ 1000000) (d : Nat) : ∀ i, i + d = r.length → Ev (fun k => spec_l1Write.l1 k (acc ++ (r.take i).map num) (i : Nat) t r) (strOfNums (acc ++ r.map num ++ [41])) := by
  induction d with
  | zero =>
    intro i hi
    obtain rfl : i = r.length := by omega
    refine Ev.end fun k => ?_
    simp only [spec_l1Write.l1]
    rw [List.take_of_length_le (Nat.le_refl _), if_neg (by omega), if_pos (by simp; omega)]
  | succ d ih =>
    intro i hi
    have hg : r.take (i + 1) = r.take i ++ [r.getD i false] := by
      rw [List.take_succ_eq_append_getElem (by omega)]; simp [List.getD, List.getElem?_eq_getElem (show i < r.length by omega)]
    refine Ev.step (fun k => ?_) (ih (i + 1) (by omega))
    simp only [spec_l1Write.l1]
    rw [if_pos (by omega), if_pos (by omega), rdOf_nat, write_step (r.getD i false) (fun v => if (acc ++ (r.take i).map num).length < 140737488355328 then spec_l1Write.l1 k ((acc ++ (r.take i).map num) ++ [v]) (wrap64 ((i : Int) + 1)) t r else none)]
    rw [if_pos (by simp; omega), wr1 (by omega), hg, List.map_append, List.append_assoc]
    rfl
theorem write_l0 (t r : List Bool) (ht : t.length ≤ 100000) (hr : r.length ≤ 1000000) (d : Nat) : ∀ i, i + d = t.length → Ev (fun k => spec_l1Write.l0 k ((t.take i).map num) (i : Nat) t r) (strOfNums (t.map num ++ [40] ++ r.map num ++ [41])) := by
  induction d with
  | zero =>
    intro i hi
    obtain rfl : i = t.length := by omega
    have := write_l1 t r hr (t.map num ++ [40]) (by simp; omega) r.length 0 (by omega)
    refine Ev.step (fun k => ?_) this
    simp only [spec_l1Write.l0]
    rw [List.take_of_length_le (Nat.le_refl _), if_neg (by omega), if_pos (by simp; omega), List.take_zero, List.map_nil, List.append_nil]
    rfl
  | succ d ih =>
    intro i hi
    have hg : t.take (i + 1) = t.take i ++ [t.getD i false] := by
      rw [List.take_succ_eq_append_getElem (by omega)]; simp [List.getD, List.getElem?_eq_getElem (show i < t.length by omega)]
    refine Ev.step (fun k => ?_) (ih (i + 1) (by omega))
    simp only [spec_l1Write.l0]
    rw [if_pos (by omega), if_pos (by omega), rdOf_nat, write_step (t.getD i false) (fun v => if ((t.take i).map num).length < 140737488355328 then spec_l1Write.l0 k (((t.take i).map num) ++ [v]) (wrap64 ((i : Int) + 1)) t r else none)]
    rw [if_pos (by simp; omega), wr1 (by omega), hg, List.map_append]
    rfl
theorem num_byte (l : List Bool) : (l.map num).map (fun n : Int => UInt8.ofNat n.toNat) = tell l := by
  induction l with
  | nil => rfl
  | cons b l ih => simp only [List.map_cons, ih, tell]; cases b <;> rfl
theorem str_text (t r : List Bool) : strOfNums (t.map num ++ [40] ++ r.map num ++ [41]) = text t r := by
  unfold strOfNums text textL
  rw [List.map_append, List.map_append, List.map_append, num_byte, num_byte]
  simp
theorem write_ev {t r : List Bool} (ht : t.length ≤ 60) (hr : r.length ≤ 60) : Ev (fun k => spec_l1Write.f k t r) (text t r) := by
  have := write_l0 t r (by omega) (by omega) t.length 0 (by omega)
  rw [str_text] at this
  exact this
theorem done_told {t r : List Bool} (ht : t.length ≤ 1073741824) (h1 : 0 < r.length) (h2 : r.length ≤ 1073741824) : ∃ x, Ev (fun k => spec_l1Done.f k t r) x ∧ Told (hasB t r) x := by
  obtain ⟨t', r', g1, g2, g3, g4⟩ := tidied_long ht h1 h2
  unfold spec_l1Done.f
  by_cases c1 : t'.length ≤ 60
  · by_cases c2 : r'.length ≤ 60
    · refine ⟨(text t' r', true), Ev.bind g2 (Ev.eq (funext fun k => if_neg (by show ¬ (t'.length : Int) > 60; omega)) (Ev.eq (funext fun k => if_neg (by show ¬ (r'.length : Int) > 60; omega)) (Ev.bind (write_ev c1 c2) (Ev.now _)))), t', r', g3, g4, by rw [if_pos ⟨c1, c2⟩]⟩
    · refine ⟨((⟨#[]⟩ : ByteArray), false), Ev.bind g2 (Ev.eq (funext fun k => if_neg (by show ¬ (t'.length : Int) > 60; omega)) (Ev.eq (funext fun k => if_pos (by show (r'.length : Int) > 60; omega)) (Ev.now _))), t', r', g3, g4, by rw [if_neg (fun h => c2 h.2)]⟩
  · refine ⟨((⟨#[]⟩ : ByteArray), false), Ev.bind g2 (Ev.eq (funext fun k => if_pos (by show (t'.length : Int) > 60; omega)) (Ev.now _)), t', r', g3, g4, by rw [if_neg (fun h => c1 h.1)]⟩
theorem fill_told {l : List Bool} {m : Nat} (hl : l.length ≤ 1073741824) (hm : m < l.length) : ∃ x, Ev (fun k => spec_l2Fill.f k l m) x ∧ Told (hasB (l.take m) (l.drop m)) x := by
  obtain ⟨x, h1, h2⟩ := done_told (t := l.take m) (r := l.drop m) (by rw [List.length_take]; omega) (by rw [List.length_drop]; omega) (by rw [List.length_drop]; omega)
  refine ⟨x, ?_, h2⟩
  unfold spec_l2Fill.f
  refine Ev.eq (funext fun k => if_pos (by omega)) (Ev.eq (funext fun k => if_pos (by omega)) ?_)
  simp only [Int.toNat_natCast]
  exact Ev.bind h1 (Ev.now _)

theorem per_of {f : Nat → Bool} {from_ size : Nat} (h1 : 1 ≤ size) (hp : ∀ n, from_ ≤ n → f (n + size) = f n) (n : Nat) : hasB ((List.range from_).map f) ((List.range size).map fun i => f (from_ + i)) n = f n := by
  have e1 : ((List.range from_).map f).length = from_ := by simp
  have e2 : ((List.range size).map fun i => f (from_ + i)).length = size := by simp
  rcases Nat.lt_or_ge n from_ with c | c
  · rw [hasB_lt (by rw [e1]; exact c)]
    simp [List.getD, c]
  · rw [hasB_ge (by rw [e1]; exact c), e1, e2]
    have hm := Nat.mod_lt (n - from_) h1
    have hd := Nat.div_add_mod (n - from_) size
    have hq : ∀ q m, from_ ≤ m → f (m + q * size) = f m := by
      intro q
      induction q with
      | zero => intro m _; simp
      | succ q ih => intro m hm; rw [Nat.succ_mul, ← Nat.add_assoc, hp _ (by omega), ih m hm]
    simp only [List.getD, List.getElem?_map, List.getElem?_range hm, Option.map_some, Option.getD_some]
    rw [← hq ((n - from_) / size) (from_ + (n - from_) % size) (by omega), Nat.mul_comm]
    congr 1
    omega
theorem range_snoc (f : Nat → Bool) (i : Nat) : (List.range (i + 1)).map f = (List.range i).map f ++ [f i] := by rw [List.range_succ, List.map_append]; rfl
theorem made_l1 (f : Nat → Bool) (from_ size : Nat) (hb : from_ ≤ 1000000 ∧ size ≤ 1000000) (p : Int → Option Bool) (hp : ∀ n : Nat, n < from_ + size → p n = some (f n)) (T : List Bool) {x : ByteArray × Bool}
    (hx : Ev (fun k => (impl_set_tidy.f k T ((List.range size).map fun i => f (from_ + i))).bind fun b => (impl_set_text.f k b.1 b.2).bind fun c => some (c.1, c.2)) x) (d : Nat) :
    ∀ i, i + d = size → Ev (fun k => impl_made.l1 p k from_ size (i : Nat) T ((List.range i).map fun i => f (from_ + i))) x := by
  induction d with
  | zero =>
    intro i hi
    obtain rfl : i = size := by omega
    refine Ev.step (fun k => ?_) hx
    simp only [impl_made.l1]
    rw [if_neg (by omega)]
  | succ d ih =>
    intro i hi
    refine Ev.step (fun k => ?_) (ih (i + 1) (by omega))
    simp only [impl_made.l1]
    rw [if_pos (by omega), wr (x := (from_ : Int) + (i : Int)) (by omega) (by omega), show (from_ : Int) + (i : Int) = ((from_ + i : Nat) : Int) from by omega, hp _ (by omega)]
    simp only [Option.bind_some]
    rw [if_pos (by simp; omega), wr1 (by omega), range_snoc (fun i => f (from_ + i))]
theorem made_l0 (f : Nat → Bool) (from_ size : Nat) (hb : from_ ≤ 1000000 ∧ size ≤ 1000000) (p : Int → Option Bool) (hp : ∀ n : Nat, n < from_ + size → p n = some (f n)) {x : ByteArray × Bool}
    (hx : Ev (fun k => impl_made.l1 p k from_ size 0 ((List.range from_).map f) ([] : List Bool)) x) (d : Nat) :
    ∀ i, i + d = from_ → Ev (fun k => impl_made.l0 p k from_ size from_ (i : Nat) ((List.range i).map f)) x := by
  induction d with
  | zero =>
    intro i hi
    obtain rfl : i = from_ := by omega
    refine Ev.step (fun k => ?_) hx
    simp only [impl_made.l0]
    rw [if_neg (by omega)]
  | succ d ih =>
    intro i hi
    refine Ev.step (fun k => ?_) (ih (i + 1) (by omega))
    simp only [impl_made.l0]
    rw [if_pos (by omega), hp _ (by omega)]
    simp only [Option.bind_some]
    rw [if_pos (by simp; omega), wr1 (by omega), range_snoc f]
theorem made_ev {f : Nat → Bool} {from_ size : Nat} (h1 : 1 ≤ size) (hb : from_ ≤ 1000000 ∧ size ≤ 1000000) (hper : ∀ n, from_ ≤ n → f (n + size) = f n) {P : Nat → Int → Option Bool} (hP : ∀ n : Nat, n < from_ + size → Ev (fun k => P k n) (f n)) :
    ∃ x, Ev (fun k => impl_made.f k from_ size (P k)) x ∧ Told f x := by
  have e2 : ((List.range size).map fun i => f (from_ + i)).length = size := by simp
  obtain ⟨t, r, g1, g2, g3, g4⟩ := tidied_long (t := (List.range from_).map f) (r := (List.range size).map fun i => f (from_ + i)) (by simp; omega) (by rw [e2]; omega) (by rw [e2]; omega)
  obtain ⟨x, k1, k2⟩ := text_told g3
  refine ⟨x, ?_, k2.congr fun n => by rw [g4, per_of h1 hper]⟩
  -- the question, told once
  let p0 : Int → Option Bool := fun n => if 0 ≤ n ∧ n < (from_ + size : Nat) then some (f n.toNat) else none
  have hp0 : ∀ n : Nat, n < from_ + size → p0 n = some (f n) := by
    intro n hn
    show (if 0 ≤ (n : Int) ∧ (n : Int) < (from_ + size : Nat) then some (f (n : Int).toNat) else none) = _
    rw [if_pos ⟨by omega, by omega⟩, Int.toNat_natCast]
  have h0 : Ev (fun k => impl_made.f k from_ size p0) x := by
    have a1 := made_l1 f from_ size hb p0 hp0 ((List.range from_).map f) (x := x) (Ev.bind g1 (Ev.bind k1 (Ev.now _))) size 0 (by omega)
    exact made_l0 f from_ size hb p0 hp0 a1 from_ 0 (by omega)
  -- all of P's answers from one number of rounds on
  have hK : ∀ N, N ≤ from_ + size → ∃ K, ∀ k, K ≤ k → ∀ n : Nat, n < N → P k n = some (f n) := by
    intro N
    induction N with
    | zero => intro _; exact ⟨0, fun k _ n hn => absurd hn (Nat.not_lt_zero n)⟩
    | succ N ih =>
      intro hN
      obtain ⟨K, hK⟩ := ih (by omega)
      obtain ⟨L, hL⟩ := hP N (by omega)
      refine ⟨max K L, fun k hk n hn => ?_⟩
      rcases Nat.lt_or_ge n N with c | c
      · exact hK k (by omega) n c
      · obtain rfl : n = N := by omega
        exact hL k (by omega)
  obtain ⟨K, hK⟩ := hK _ (Nat.le_refl _)
  obtain ⟨L, hL⟩ := h0
  refine ⟨max K L + 1, fun k hk => ?_⟩
  obtain ⟨m, rfl⟩ : ∃ m, k = m + 1 := ⟨k - 1, by omega⟩
  refine impl_made.mono p0 (P (m + 1)) (fun n q hq => ?_) (from_ : Int) (size : Int) m x (hL m (by omega))
  have hq' : (if 0 ≤ n ∧ n < (from_ + size : Nat) then some (f n.toNat) else none) = some q := hq
  by_cases c : 0 ≤ n ∧ n < (from_ + size : Nat)
  · rw [if_pos c] at hq'
    have := hK (m + 1) (by omega) n.toNat (by omega)
    rw [Int.toNat_of_nonneg c.1] at this
    rw [this]; exact hq'
  · rw [if_neg c] at hq'; cases hq'


theorem gcd_ev (b : Nat) : ∀ a : Nat, Ev (fun k => impl_gcd.f k (a : Int) (b : Int)) ((Nat.gcd a b : Nat) : Int) := by
  induction b using Nat.strongRecOn with
  | _ b ih =>
    intro a
    by_cases c : b = 0
    · subst c
      refine Ev.end fun k => ?_
      simp only [impl_gcd.f, impl_gcd.l0]
      rw [if_pos (by omega), Nat.gcd_zero_right]
    · have h1 := ih (a % b) (Nat.mod_lt _ (by omega)) b
      rw [Nat.gcd_comm b, ← Nat.gcd_rec, Nat.gcd_comm] at h1
      refine Ev.step (fun k => ?_) h1
      simp only [impl_gcd.f, impl_gcd.l0]
      rw [if_neg (by omega), tmod_nat]


theorem lcm_ev {p q : Nat} (hp : 1 ≤ p) (hp2 : p ≤ 60) (hq2 : q ≤ 60) : Ev (fun k => impl_lcm.f k (p : Int) (q : Int)) ((Nat.lcm p q : Nat) : Int) := by
  have hg : 0 < Nat.gcd p q := Nat.gcd_pos_of_pos_left _ hp
  have hd := Nat.div_le_self p (Nat.gcd p q)
  have hm : p / Nat.gcd p q * q ≤ 60 * 60 := Nat.mul_le_mul (by omega) hq2
  have he := lcm_eq p q
  unfold impl_lcm.f
  refine Ev.bind (gcd_ev q p) (Ev.const fun k => ?_)
  rw [if_neg (by omega), tdiv_nat]
  generalize Nat.gcd p q = g at *
  generalize p / g = a at *
  rw [wr (x := (a : Int)) (by omega) (by omega), ← Int.natCast_mul, he, wr (by omega) (by omega)]
/-- Marks of a set that comes again from m on, cut there. -/
theorem fill_tells {l : List Bool} {f : Nat → Bool} {m N : Nat} (hl : Tells l f N) (hm : m < N) (hN : N ≤ 1073741824) (hper : ∀ n, m ≤ n → f (n + (N - m)) = f n) : ∃ x, Ev (fun k => spec_l2Fill.f k l m) x ∧ Told f x := by
  obtain ⟨x, h1, h2⟩ := fill_told (l := l) (m := m) (by rw [hl.len]; exact hN) (by rw [hl.len]; exact hm)
  refine ⟨x, h1, h2.congr fun n => ?_⟩
  have e1 : l.take m = (List.range m).map f := by
    refine ext_getD (by simp [hl.len]; omega) fun i hi => ?_
    have hi2 : i < m := by simp [hl.len] at hi; omega
    rw [getD_take hi2, hl.get i (by omega)]
    simp [List.getD, hi2]
  have e2 : l.drop m = (List.range (N - m)).map fun i => f (m + i) := by
    refine ext_getD (by simp [hl.len]) fun i hi => ?_
    have hi2 : i < N - m := by simp [hl.len] at hi; omega
    have := hl.get (m + i) (by omega)
    simp only [List.getD, List.getElem?_drop, List.getElem?_map, List.getElem?_range hi2, Option.map_some, Option.getD_some] at this ⊢
    exact this
  rw [e1, e2]
  exact per_of (by omega) hper n
theorem tells_range (f : Nat → Bool) (N : Nat) : Tells ((List.range N).map f) f N := ⟨by simp, fun j hj => by simp [List.getD, hj]⟩

theorem sumOf_impl {s u : ByteArray} {ta ra tb rb : List Bool} (h : IsSmall s ta ra) (h2 : IsSmall u tb rb) : ∃ x, Ev (fun k => impl_SumOf.f k s u) x ∧ Told (sumB (hasB ta ra) (hasB tb rb)) x := by
  have hL := lcm_small _ h.rl _ h2.rl h.good.pos h2.good.pos
  have hp := lcm_pos h.good.pos h2.good.pos
  have t1 := h.tl
  have t2 := h2.tl
  obtain ⟨x, k1, k2⟩ := made_ev (f := sumB (hasB ta ra) (hasB tb rb)) (from_ := 200) (size := Nat.lcm ra.length rb.length) hp ⟨by omega, by omega⟩
    (fun n hn => sumB_period (Nat.lcm ra.length rb.length) (lcm_mod_left _ _) (lcm_mod_right _ _) (by omega)) (P := fun k n => impl_sums.f k ta ra tb rb n) (fun n hn => sums_ev h.good h2.good n (by omega))
  refine ⟨x, ?_, k2⟩
  unfold impl_SumOf.f
  refine Ev.bind h.impl (Ev.bind h2.impl ?_)
  simp only [if_true]
  refine Ev.step (f := fun k => (impl_lcm.f k (ra.length : Int) (rb.length : Int)).bind fun t => (impl_made.f k 200 t (fun n_ => impl_sums.f k ta ra tb rb n_)).bind fun b => some (b.1, b.2)) (fun k => by simp only [impl_SumOf.j0, Bool.not_true, Bool.false_eq_true, if_false]) ?_
  exact Ev.bind (lcm_ev h.good.pos h.good.rl h2.good.rl) (Ev.bind k1 (Ev.now _))

theorem sum_l1 {ta ra tb rb : List Bool} (ha : Good ta ra) (hb : Good tb rb) (T L : Nat) (acc : List Bool) (i : Nat) (hi : i ≤ 1000000) (hacc : acc.length = i) {res : ByteArray × Bool}
    (hend : Ev (fun k => spec_l4Sum.l0 k false T L (acc ++ [sumB (hasB ta ra) (hasB tb rb) i]) ((i + 1 : Nat) : Int) ta ra tb rb) res) (d : Nat) :
    ∀ (q : Nat) (b : Bool), q + d = i + 1 → (b = true ↔ ∃ y, y < q ∧ hasB ta ra y = true ∧ hasB tb rb (i - y) = true) → Ev (fun k => spec_l4Sum.l1 k false T L acc (i : Nat) b (q : Nat) ta ra tb rb) res := by
  induction d with
  | zero =>
    intro q b hq hbq
    have e : b = sumB (hasB ta ra) (hasB tb rb) i := by
      rw [Bool.eq_iff_iff, hbq, sumB_iff]
      exact ⟨fun ⟨y, a, c⟩ => ⟨y, by omega, c⟩, fun ⟨y, a, c⟩ => ⟨y, by omega, c⟩⟩
    refine Ev.step (fun k => ?_) hend
    simp only [spec_l4Sum.l1]
    rw [if_neg (by omega), if_pos (by omega), wr1 (by omega), e]
  | succ d ih =>
    intro q b hq hbq
    have hw : wrap64 ((i : Int) - (q : Int)) = ((i - q : Nat) : Int) := wrs (by omega) (by omega)
    cases b with
    | true =>
      obtain ⟨y, y1, y2⟩ := hbq.1 rfl
      refine Ev.step (fun k => ?_) (ih (q + 1) true (by omega) ⟨fun _ => ⟨y, by omega, y2⟩, fun _ => rfl⟩)
      simp only [spec_l4Sum.l1]
      rw [if_pos (by omega), if_pos trivial, wr1 (by omega)]
    | false =>
      have hno : ∀ y, y < q → ¬ (hasB ta ra y = true ∧ hasB tb rb (i - y) = true) := fun y h1 h2 => by
        have := hbq.2 ⟨y, h1, h2⟩
        cases this
      have st : ∀ v : Bool, (v = true ↔ hasB ta ra q = true ∧ hasB tb rb (i - q) = true) → Ev (fun k => spec_l4Sum.l1 k false T L acc (i : Nat) v ((q + 1 : Nat) : Int) ta ra tb rb) res := by
        intro v hv
        refine ih (q + 1) v (by omega) ?_
        rw [hv]
        constructor
        · intro hx; exact ⟨q, by omega, hx⟩
        · rintro ⟨y, h1, h2⟩
          rcases Nat.lt_or_ge y q with c | c
          · exact absurd h2 (hno y c)
          · obtain rfl : y = q := by omega
            exact h2
      cases c1 : hasB ta ra q with
      | false =>
        refine Ev.step (fun k => ?_) (st false ⟨fun h => (by cases h), fun h => (by rw [c1] at h; cases h.1)⟩)
        simp only [spec_l4Sum.l1]
        rw [if_pos (by omega), if_neg (by simp), l1_has ha q (by omega), c1]
        simp only [Option.bind_some, Bool.false_eq_true, if_false]
        rw [wr1 (by omega)]
      | true =>
        cases c2 : hasB tb rb (i - q) with
        | false =>
          refine Ev.step (fun k => ?_) (st false ⟨fun h => (by cases h), fun h => (by rw [c2] at h; cases h.2)⟩)
          simp only [spec_l4Sum.l1]
          rw [if_pos (by omega), if_neg (by simp), l1_has ha q (by omega), c1]
          simp only [Option.bind_some, if_true, hw]
          rw [l1_has hb (i - q) (by omega), c2]
          simp only [Option.bind_some, Bool.false_eq_true, if_false]
          rw [wr1 (by omega)]
        | true =>
          refine Ev.step (fun k => ?_) (st true ⟨fun _ => ⟨c1, c2⟩, fun _ => rfl⟩)
          simp only [spec_l4Sum.l1]
          rw [if_pos (by omega), if_neg (by simp), l1_has ha q (by omega), c1]
          simp only [Option.bind_some, if_true, hw]
          rw [l1_has hb (i - q) (by omega), c2]
          simp only [Option.bind_some, if_true, Bool.false_eq_true, if_false]
          rw [wr1 (by omega)]
theorem sum_l0 {ta ra tb rb : List Bool} (ha : Good ta ra) (hb : Good tb rb) (T L : Nat) (hTL : T + L ≤ 100000) {x : ByteArray × Bool} (hx : Ev (fun k => spec_l2Fill.f k ((List.range (T + L)).map (sumB (hasB ta ra) (hasB tb rb))) T) x) (d : Nat) :
    ∀ i, i + d = T + L → Ev (fun k => spec_l4Sum.l0 k false T L ((List.range i).map (sumB (hasB ta ra) (hasB tb rb))) (i : Nat) ta ra tb rb) x := by
  induction d with
  | zero =>
    intro i hi
    obtain rfl : i = T + L := by omega
    refine Ev.step (f := fun k => (spec_l2Fill.f k ((List.range (T + L)).map (sumB (hasB ta ra) (hasB tb rb))) T).bind fun b => some (b.1, b.2)) (fun k => ?_) (Ev.bind hx (Ev.now _))
    simp only [spec_l4Sum.l0]
    rw [wr (x := (T : Int) + (L : Int)) (by omega) (by omega), if_neg (by omega)]
  | succ d ih =>
    intro i hi
    have h1 := ih (i + 1) (by omega)
    rw [range_snoc] at h1
    refine Ev.step (fun k => ?_) (sum_l1 ha hb T L _ i (by omega) (by simp) h1 (i + 1) 0 false (by omega) ⟨fun h => (by cases h), fun ⟨y, hy, _⟩ => absurd hy (Nat.not_lt_zero y)⟩)
    simp only [spec_l4Sum.l0]
    rw [wr (x := (T : Int) + (L : Int)) (by omega) (by omega), if_pos (by omega)]
    rfl
theorem sumOf_spec {s u : ByteArray} {ta ra tb rb : List Bool} (h : IsSmall s ta ra) (h2 : IsSmall u tb rb) : ∃ x, Ev (fun k => spec_SumOf.f k s u) x ∧ Told (sumB (hasB ta ra) (hasB tb rb)) x := by
  have hL := lcm_small _ h.rl _ h2.rl h.good.pos h2.good.pos
  have hp := lcm_pos h.good.pos h2.good.pos
  have t1 := h.tl
  have t2 := h2.tl
  have hsh := shape_ev h.good h2.good
  have hper := fun n hn => sumB_period (ta := ta) (ra := ra) (tc := tb) (rc := rb) (n := n) (Nat.lcm ra.length rb.length) (lcm_mod_left _ _) (lcm_mod_right _ _) hn
  generalize Nat.lcm ra.length rb.length = L at *
  have hM : max ta.length tb.length ≤ 8 := by omega
  have hM2 : ta.length + tb.length ≤ 2 * max ta.length tb.length := by omega
  generalize max ta.length tb.length = M at *
  obtain ⟨x, k1, k2⟩ := fill_tells (m := 2 * M + 3 * L + 2) (N := (2 * M + 3 * L + 2) + L) (tells_range (sumB (hasB ta ra) (hasB tb rb)) _) (by omega) (by omega) (fun n hn => by rw [Nat.add_sub_cancel_left]; exact hper n (by omega))
  have k3 := sum_l0 h.good h2.good (2 * M + 3 * L + 2) L (by omega) k1 _ 0 (Nat.zero_add _)
  refine ⟨x, ?_, k2⟩
  unfold spec_SumOf.f
  refine Ev.bind h.spec (Ev.bind h2.spec ?_)
  simp only [if_true]
  refine Ev.bind (f := fun k (b : ByteArray × Bool) => some (b.1, b.2)) (a := x) ?_ (Ev.now x)
  unfold spec_l4Sum.f
  refine Ev.bind hsh ?_
  have e1 : wrap64 ((wrap64 ((wrap64 (2 * (M : Int))) + (wrap64 (3 * (L : Int))))) + 2) = ((2 * M + 3 * L + 2 : Nat) : Int) := by
    rw [wr (x := 2 * (M : Int)) (by omega) (by omega), wr (x := 3 * (L : Int)) (by omega) (by omega), wr (x := 2 * (M : Int) + 3 * (L : Int)) (by omega) (by omega), wr (by omega) (by omega)]; omega
  simp only [e1]
  exact k3
theorem sumOf_both {s u : ByteArray} {ta ra tb rb : List Bool} (h : IsSmall s ta ra) (h2 : IsSmall u tb rb) : ∃ x, Ev (fun k => impl_SumOf.f k s u) x ∧ Ev (fun k => spec_SumOf.f k s u) x ∧ Told (sumB (hasB ta ra) (hasB tb rb)) x := by
  obtain ⟨x, k1, k2⟩ := sumOf_impl h h2
  obtain ⟨y, j1, j2⟩ := sumOf_spec h h2
  obtain rfl := k2.unique j2
  exact ⟨x, k1, j1, k2⟩
theorem sumOf_no {s u : ByteArray} (hs : NoSmall s ∨ ∃ t r, IsSmall s t r) (hu : NoSmall u ∨ ∃ t r, IsSmall u t r) (h : NoSmall s ∨ NoSmall u) : Ev (fun k => impl_SumOf.f k s u) ((⟨#[]⟩ : ByteArray), false) ∧ Ev (fun k => spec_SumOf.f k s u) ((⟨#[]⟩ : ByteArray), false) := by
  have any : ∀ w : ByteArray, (NoSmall w ∨ ∃ t r, IsSmall w t r) → ∃ a b c d ok, Ev (fun k => impl_small.f k w) (a, b, ok) ∧ Ev (fun k => spec_l4Small.f k w) (c, d, ok) ∧ (NoSmall w → ok = false) := by
    rintro w (k | ⟨t, r, k⟩)
    · obtain ⟨⟨a, b, e1⟩, ⟨c, d, e2⟩⟩ := k
      exact ⟨a, b, c, d, false, e1, e2, fun _ => rfl⟩
    · refine ⟨t, r, t, r, true, k.impl, k.spec, fun k2 => ?_⟩
      obtain ⟨⟨a, b, e1⟩, _⟩ := k2
      have := Ev.unique k.impl e1
      simp only [Prod.mk.injEq] at this
      exact absurd this.2.2 (by simp)
  obtain ⟨a, b, c, d, o, g1, g2, g3⟩ := any s hs
  obtain ⟨a', b', c', d', o', g1', g2', g3'⟩ := any u hu
  have ho : o = false ∨ o' = false := h.elim (fun k => .inl (g3 k)) (fun k => .inr (g3' k))
  constructor
  · unfold impl_SumOf.f
    refine Ev.bind g1 (Ev.bind g1' ?_)
    have fin : ∀ x : Bool, x = true → Ev (fun k => impl_SumOf.j0 k x a b a' b') ((⟨#[]⟩ : ByteArray), false) := fun x hx => Ev.end fun k => by simp only [impl_SumOf.j0]; rw [if_pos hx]
    cases o with
    | false => simp only [Bool.false_eq_true, if_false]; exact fin _ rfl
    | true =>
      simp only [if_true]
      exact fin _ (by rcases ho with h | h; cases h; rw [h]; rfl)
  · unfold spec_SumOf.f
    refine Ev.bind g2 (Ev.bind g2' ?_)
    cases o with
    | false => simp only [Bool.false_eq_true, if_false]; exact Ev.now _
    | true =>
      have : o' = false := by rcases ho with h | h; cases h; exact h
      subst this
      simp only [if_true, Bool.false_eq_true, if_false]; exact Ev.now _


/-- The least number greater than 0, or 0 without one. -/
structure Least (t r : List Bool) (m : Nat) : Prop where
  cases : (m = 0 ∧ ∀ z, 1 ≤ z → hasB t r z = false) ∨ (1 ≤ m ∧ m ≤ t.length + r.length ∧ hasB t r m = true ∧ ∀ z, 1 ≤ z → z < m → hasB t r z = false)
theorem Least.unique {t r : List Bool} {m m' : Nat} (h : Least t r m) (k : Least t r m') : m = m' := by
  rcases h.cases with ⟨h1, h2⟩ | ⟨h1, h2, h3, h4⟩
  · rcases k.cases with ⟨k1, k2⟩ | ⟨k1, k2, k3, k4⟩
    · omega
    · rw [h2 m' k1] at k3; cases k3
  · rcases k.cases with ⟨k1, k2⟩ | ⟨k1, k2, k3, k4⟩
    · rw [k2 m h1] at h3; cases h3
    · rcases Nat.lt_trichotomy m m' with c | c | c
      · rw [k4 m h1 c] at h3; cases h3
      · exact c
      · rw [h4 m' k1 c] at k3; cases k3
structure Parts (f : Nat → Bool) (ps : List Nat) (x : Nat) : Prop where
  all : ∀ q ∈ ps, 1 ≤ q ∧ q < x ∧ f q = true
  some : ∀ y, 1 ≤ y → y < x → f y = true → ∃ q ∈ ps, q ≤ y ∧ star f (y - q) = true
  few : ps.length ≤ x
theorem canon_one : Canon [true] [false] := ⟨by decide, fun d h1 h2 => by simp at h2; omega, fun m hm => by
  obtain rfl : m = 0 := by simpa using hm.symm
  decide⟩
theorem has_one (n : Nat) : hasB [true] [false] n = decide (n = 0) := by
  rcases Nat.eq_zero_or_pos n with h | h
  · subst h; rfl
  · rw [hasB_ge (by show 1 ≤ n; omega), decide_eq_false (by omega)]
    simp [Nat.mod_one]
theorem text_one : text [true] [false] = (⟨#[49, 40, 48, 41]⟩ : ByteArray) := rfl
theorem told_one : Told (fun n => decide (n = 0)) ((⟨#[49, 40, 48, 41]⟩ : ByteArray), true) := by
  rw [← text_one]
  exact Told.of canon_one ⟨by decide, by decide, by decide⟩ has_one

abbrev empt : ByteArray × Bool := ((⟨#[]⟩ : ByteArray), false)

theorem tidied_self {t r : List Bool} (h : Canon t r) (g : Good t r) : Tidied t r t r := by
  obtain ⟨t', r', hT⟩ := tidied g
  obtain ⟨rfl, rfl⟩ := canon_unique hT.canon h hT.same
  exact hT
theorem small_dec {s : ByteArray} {t0 r0 t r : List Bool} (h : IsSet s t0 r0) (hT : Tidied t0 r0 t r) : NoSmall s ∨ IsSmall s t r := by
  have hi : Ev (fun k => impl_small.f k s) (t, r, decide ((t.length : Int) ≤ 8) && decide ((r.length : Int) ≤ 8)) := by
    unfold impl_small.f impl_tidied.f
    rw [h.impl]; simp only [Option.bind_some, if_true]
    refine Ev.bind (a := (t, r, true)) (Ev.bind hT.impl (Ev.now _)) (Ev.const fun k => ?_)
    rw [if_pos rfl]
    by_cases c : (t.length : Int) ≤ 8
    · rw [if_pos c, decide_eq_true c]; rfl
    · rw [if_neg c, decide_eq_false c]; rfl
  have hs : Ev (fun k => spec_l4Small.f k s) (t, r, decide ((t.length : Int) ≤ 8) && decide ((r.length : Int) ≤ 8)) := by
    unfold spec_l4Small.f
    refine Ev.bind h.spec ?_
    simp only [if_true]
    refine Ev.bind hT.spec (Ev.const fun k => ?_)
    by_cases c : (t.length : Int) ≤ 8
    · rw [if_pos c, decide_eq_true c]; rfl
    · rw [if_neg c, decide_eq_false c]; rfl
  by_cases c : t.length ≤ 8 ∧ r.length ≤ 8
  · right
    rw [decide_eq_true (by omega), decide_eq_true (by omega)] at hi hs
    exact ⟨⟨t0, r0, h, hT⟩, hT.good, c.1, c.2, hi, hs⟩
  · left
    have : (decide ((t.length : Int) ≤ 8) && decide ((r.length : Int) ≤ 8)) = false := by
      by_cases c1 : t.length ≤ 8
      · rw [decide_eq_false (show ¬ (r.length : Int) ≤ 8 by omega), Bool.and_false]
      · rw [decide_eq_false (show ¬ (t.length : Int) ≤ 8 by omega), Bool.false_and]
    rw [this] at hi hs
    exact ⟨⟨t, r, hi⟩, ⟨t, r, hs⟩⟩
theorem small_len {s : ByteArray} {t0 r0 t r : List Bool} (h : IsSet s t0 r0) (hT : Tidied t0 r0 t r) (c1 : t.length ≤ 8) (c2 : r.length ≤ 8) : IsSmall s t r := by
  rcases small_dec h hT with k | k
  · obtain ⟨⟨a, b, e⟩, _⟩ := k
    have hi : Ev (fun k => impl_small.f k s) (t, r, true) := by
      unfold impl_small.f impl_tidied.f
      rw [h.impl]; simp only [Option.bind_some, if_true]
      refine Ev.bind (a := (t, r, true)) (Ev.bind hT.impl (Ev.now _)) (Ev.const fun k => ?_)
      rw [if_pos rfl, if_pos (by show (t.length : Int) ≤ 8; omega), decide_eq_true (by show (r.length : Int) ≤ 8; omega)]
    have := Ev.unique hi e
    simp only [Prod.mk.injEq] at this
    exact absurd this.2.2 (by simp)
  · exact k
theorem setTidy_ev {s : ByteArray} {t0 r0 t r : List Bool} (h : IsSet s t0 r0) (hT : Tidied t0 r0 t r) : Ev (fun k => impl_SetTidy.f k s) (text t r, true) := by
  unfold impl_SetTidy.f impl_tidied.f
  rw [h.impl]; simp only [Option.bind_some, if_true]
  refine Ev.bind (a := (t, r, true)) (Ev.bind hT.impl (Ev.now _)) ?_
  simp only [if_true]
  exact Ev.bind (text_ev hT.good.tl hT.good.rl) (Ev.now _)
theorem setSame_ev {s u : ByteArray} {t r t2 r2 : List Bool} (h : IsSet s t r) (h2 : IsSet u t2 r2) (e : ∀ n, hasB t r n = hasB t2 r2 n) : Ev (fun k => impl_SetSame.f k s u) true := by
  obtain ⟨a, b, hT⟩ := tidied h.good
  obtain ⟨a2, b2, hT2⟩ := tidied h2.good
  obtain ⟨rfl, rfl⟩ := canon_unique hT.canon hT2.canon (fun n => by rw [hT.same, hT2.same, e])
  unfold impl_SetSame.f
  refine Ev.bind (setTidy_ev h hT) (Ev.bind (setTidy_ev h2 hT2) (Ev.const fun k => ?_))
  simp
theorem index_zero (n : Nat) : Ev (fun k => slices_Contains_int_int.f k ([0] : List Int) (n : Int)) (decide (n = 0)) := by
  unfold slices_Contains_int_int.f slices_Index_int_int.f
  rcases Nat.eq_zero_or_pos n with c | c
  · subst c
    refine Ev.bind (a := 0) (Ev.end fun k => ?_) (Ev.now _)
    simp [slices_Index_int_int.l0, rd]
  · rw [decide_eq_false (by omega)]
    refine Ev.bind (a := -1) ?_ (Ev.now _)
    refine Ev.step (f := fun k => slices_Index_int_int.l0 k ([0] : List Int) n 1 1) (fun k => ?_) (Ev.end fun k => ?_)
    · simp only [slices_Index_int_int.l0]
      rw [if_pos (by simp), if_pos (by omega), if_pos (by simp), if_neg (by simp [rd]; omega)]
      rw [wr (x := 0 + 1) (by omega) (by omega)]; rfl
    · simp only [slices_Index_int_int.l0]
      rw [if_neg (by omega)]
theorem setOf_zero : Ev (fun k => impl_SetOf.f k ([0] : List Int)) ((⟨#[49, 40, 48, 41]⟩ : ByteArray), true) := by
  obtain ⟨x, x1, x2⟩ := made_ev (f := fun n => decide (n = 0)) (from_ := 60) (size := 1) (by omega) ⟨by omega, by omega⟩ (fun n hn => by
    show decide (n + 1 = 0) = decide (n = 0)
    rw [decide_eq_false (by omega), decide_eq_false (by omega)]) (P := fun k n => slices_Contains_int_int.f k ([0] : List Int) n) (fun n hn => index_zero n)
  rw [told_one.unique x2]
  unfold impl_SetOf.f
  refine Ev.bind (a := false) ?_ ?_
  · unfold slices_ContainsFunc_int_int.f slices_IndexFunc_int_int.f
    refine Ev.bind (a := -1) ?_ (Ev.now _)
    refine Ev.step (f := fun k => slices_IndexFunc_int_int.l0 impl_SetOf.wrong k ([0] : List Int) 1 1) (fun k => ?_) (Ev.end fun k => ?_)
    · simp only [slices_IndexFunc_int_int.l0]
      rw [if_pos (by simp), if_pos (by omega), if_pos (by simp), show impl_SetOf.wrong (rd ([0] : List Int) 0) = some false from rfl]
      simp only [Option.bind_some, Bool.false_eq_true, if_false]
      rw [wr (x := 0 + 1) (by omega) (by omega)]; rfl
    · simp only [slices_IndexFunc_int_int.l0]
      rw [if_neg (by omega)]
  · simp only [Bool.false_eq_true, if_false]
    exact x1

end Go.Proofs.Ytpkpgdlbgcjloaa.Q

namespace Go.Proofs.Ytpkpgdlbgcjloaa.Q
open Go.RowKit Go.Proofs.YtpkpgdlbgcjloaaW.PrintWords Go.Proofs.YtpkpgdlbgcjloaaW.PrintLast Go.Proofs.YtpkpgdlbgcjloaaW.PrintMore
set_option linter.unusedVariables false
set_option linter.unusedSimpArgs false
structure Bs (bs : List Int) : Prop where
  len : bs.length ≤ 2000
  byte : ∀ x ∈ bs, 0 ≤ x ∧ x ≤ 255
theorem byte_wf {x : Int} (h : (Lit.int .u8 x).wf = true) : 0 ≤ x ∧ x ≤ 255 := by
  have h1 : IntKind.u8.min = 0 := rfl
  have h2 : IntKind.u8.max = 255 := rfl
  simp [Lit.wf] at h
  omega
theorem open_ev (l0 : List Int) (h : ∀ x ∈ l0, (Lit.int .u8 x).wf = true) : ∃ bs, Bs bs ∧ spec_l6Open.f l0 = some (bs, 0) := by
  unfold spec_l6Open.f
  by_cases c : (l0.length : Int) > 2000
  · refine ⟨l0.take 2000, ⟨List.length_take_le _ _, fun x hx => byte_wf (h x (List.mem_of_mem_take hx))⟩, ?_⟩
    rw [if_pos c, if_pos (by omega)]
  · exact ⟨l0, ⟨by omega, fun x hx => byte_wf (h x hx)⟩, by rw [if_neg c]⟩
theorem rd_byte {bs : List Int} (h : Bs bs) (i : Nat) : ∃ b : Nat, b ≤ 255 ∧ rd bs (i : Int) = b := by
  have hx : 0 ≤ rd bs (i : Int) ∧ rd bs (i : Int) ≤ 255 := by
    unfold rd
    rw [Int.toNat_natCast]
    by_cases c : i < bs.length
    · have : bs.getD i 0 = bs[i] := by simp [List.getD, c]
      rw [this]
      exact h.byte _ (List.getElem_mem c)
    · have : bs.getD i 0 = 0 := by simp [List.getD, List.getElem?_eq_none (show bs.length ≤ i by omega)]
      rw [this]; omega
  obtain ⟨b, hb⟩ := Int.eq_ofNat_of_zero_le hx.1
  exact ⟨b, by omega, hb⟩
theorem xor_nat (a b : Nat) (ha : a < 2 ^ 62) (hb : b < 2 ^ 62) : Go.bits .xor .i64 (a : Int) (b : Int) = ((a ^^^ b : Nat) : Int) := by
  have h64 : IntKind.i64.bits = 64 := rfl
  have ha' : a % 2 ^ 64 = a := Nat.mod_eq_of_lt (by omega)
  have hb' : b % 2 ^ 64 = b := Nat.mod_eq_of_lt (by omega)
  have hx : a ^^^ b < 2 ^ 62 := Nat.xor_lt_two_pow ha hb
  simp only [Go.bits, h64, BitVec.ofInt_natCast, BitVec.toNat_xor, BitVec.toNat_ofNat, ha', hb']
  rw [IntKind.wrap_i64]
  omega
theorem pick_ev {bs : List Int} (h : Bs bs) (p n : Nat) (hp : p ≤ 1000000) (hn : 1 ≤ n) (hn2 : n ≤ 1000000) : ∃ v : Nat, v < n ∧ Ev (fun k => spec_l6Rd_pick.f k bs p n) ((v : Int), ((p + 1 : Nat) : Int)) := by
  have hl := h.len
  have e1 : wrap64 (((p + 1 : Nat) : Int) - 1) = (p : Nat) := by rw [wr (by omega) (by omega)]; omega
  have pos : ∀ v : Nat, Ev (fun k => spec_l6Rd_pick.j0 k n ((bs.length : Int) == 0) bs ((p + 1 : Nat) : Int)) ((v : Int), ((p + 1 : Nat) : Int)) → Ev (fun k => spec_l6Rd_pick.f k bs p n) ((v : Int), ((p + 1 : Nat) : Int)) := by
    intro v hv
    refine Ev.congr (fun k => ?_) hv
    unfold spec_l6Rd_pick.f
    rw [if_neg (by omega), wr1 (by omega)]
  by_cases c0 : bs.length = 0
  · refine ⟨0, by omega, pos 0 (Ev.end fun k => ?_)⟩
    simp only [spec_l6Rd_pick.j0]
    rw [if_pos (by rw [c0]; rfl)]
    rfl
  · have hne : ¬ (((bs.length : Int) == 0) = true) := by simp; intro h; exact c0 (by simp [h])
    by_cases c : p < bs.length
    · obtain ⟨b, hb, eb⟩ := rd_byte h p
      refine ⟨b % n, Nat.mod_lt _ (by omega), pos _ (Ev.end fun k => ?_)⟩
      simp only [spec_l6Rd_pick.j0]
      rw [if_neg hne, e1, if_pos (by omega), if_pos (by omega), if_neg (by omega), eb, wr (by omega) (by omega), tmod_nat]
    · have hm1 := Nat.mod_lt p (show bs.length > 0 by omega)
      have hm2 := Nat.mod_lt (p * 7 + 3) (show bs.length > 0 by omega)
      obtain ⟨b1, hb1, eb1⟩ := rd_byte h (p % bs.length)
      obtain ⟨b2, hb2, eb2⟩ := rd_byte h ((p * 7 + 3) % bs.length)
      have hd := Nat.div_le_self p bs.length
      have hx : b1 * 131 + b2 * 1117 + p * 29 + p / bs.length * 53 ≤ 100000000 := by omega
      refine ⟨((b1 * 131 + b2 * 1117 + p * 29 + p / bs.length * 53) ^^^ ((b1 * 131 + b2 * 1117 + p * 29 + p / bs.length * 53) / 64)) % n, Nat.mod_lt _ (by omega), pos _ (Ev.end fun k => ?_)⟩
      simp only [spec_l6Rd_pick.j0]
      have e7 : wrap64 (wrap64 (((p : Nat) : Int) * 7) + 3) = ((p * 7 + 3 : Nat) : Int) := by rw [wr (x := (p : Int) * 7) (by omega) (by omega), wr (by omega) (by omega)]; omega
      rw [if_neg hne, e1, if_neg (by omega), if_neg (by omega), e7, tmod_nat, tmod_nat, if_pos (by omega), if_pos (by omega), if_pos (by omega), if_pos (by omega), if_neg (by omega), eb1, eb2, tdiv_nat]
      have hX : wrap64 (wrap64 (wrap64 (wrap64 (wrap64 (b1 : Int) * 131) + wrap64 (wrap64 (b2 : Int) * 1117)) + wrap64 ((p : Int) * 29)) + wrap64 (wrap64 ((p / bs.length : Nat) : Int) * 53)) = ((b1 * 131 + b2 * 1117 + p * 29 + p / bs.length * 53 : Nat) : Int) := by
        generalize p / bs.length = q at *
        rw [wr (x := (b1 : Int)) (by omega) (by omega), wr (x := (b2 : Int)) (by omega) (by omega), wr (x := (b1 : Int) * 131) (by omega) (by omega), wr (x := (b2 : Int) * 1117) (by omega) (by omega), wr (x := (p : Int) * 29) (by omega) (by omega), wr (x := (q : Int)) (by omega) (by omega), wr (x := (q : Int) * 53) (by omega) (by omega), wr (x := (b1 : Int) * 131 + (b2 : Int) * 1117) (by omega) (by omega), wr (x := (b1 : Int) * 131 + (b2 : Int) * 1117 + (p : Int) * 29) (by omega) (by omega), wr (by omega) (by omega)]
        omega
      rw [hX]
      generalize b1 * 131 + b2 * 1117 + p * 29 + p / bs.length * 53 = X at hx
      have hq : wrap64 (Int.tdiv (X : Int) 64) = ((X / 64 : Nat) : Int) := by
        rw [show (64 : Int) = ((64 : Nat) : Int) from rfl, tdiv_nat, wr (by omega) (by omega)]
      rw [hq, xor_nat _ _ (by omega) (by omega), tmod_nat]

theorem signs_draw_l0 {bs : List Int} (h : Bs bs) (c : Nat) : ∀ (acc : List Int) (p : Nat), p + c ≤ 1000000 → acc.length + c ≤ 1000000 →
    ∃ s : ByteArray, s.size = acc.length + c ∧ Ev (fun k => spec_l91Signs.l0 k acc c bs p) (s, ((p + c : Nat) : Int)) := by
  induction c with
  | zero =>
    intro acc p hp ha
    refine ⟨strOfNums acc, strOfNums_size acc, Ev.end fun k => ?_⟩
    simp only [spec_l91Signs.l0]
    rw [if_neg (by omega)]; rfl
  | succ c ih =>
    intro acc p hp ha
    obtain ⟨v, hv, e⟩ := pick_ev h p 2 (by omega) (by omega) (by omega)
    obtain ⟨s, hs, es⟩ := ih (acc ++ [(wrap64 (48 + (v : Int))) % 256]) (p + 1) (by omega) (by rw [List.length_append, List.length_singleton]; omega)
    rw [List.length_append, List.length_singleton] at hs
    refine ⟨s, by omega, Ev.step (f := fun k => (spec_l6Rd_pick.f k bs p 2).bind fun x => if acc.length < 140737488355328 then spec_l91Signs.l0 k (acc ++ [(wrap64 (48 + x.1)) % 256]) (c : Nat) bs x.2 else none) (fun k => ?_) (Ev.bind e ?_)⟩
    · simp only [spec_l91Signs.l0]
      rw [if_pos (by omega), wr (x := ((c + 1 : Nat) : Int) - 1) (by omega) (by omega), show ((c + 1 : Nat) : Int) - 1 = (c : Int) from by omega]
    · simp only [if_pos (show acc.length < 140737488355328 from by omega)]
      rw [show p + (c + 1) = p + 1 + c from by omega]
      exact es
theorem signs_draw {bs : List Int} (h : Bs bs) (p low many : Nat) (hp : p ≤ 100000) (hl : low ≤ 1000) (hm : 1 ≤ many) (hm2 : many ≤ 1000) :
    ∃ (s : ByteArray) (q : Nat), s.size ≤ low + many ∧ q ≤ p + 1 + low + many ∧ Ev (fun k => spec_l91Signs.f k bs p low many) (s, (q : Int)) := by
  obtain ⟨v, hv, e⟩ := pick_ev h p many (by omega) hm (by omega)
  obtain ⟨s, hs, es⟩ := signs_draw_l0 h (low + v) [] (p + 1) (by omega) (by simp; omega)
  simp only [List.length_nil] at hs
  refine ⟨s, p + 1 + (low + v), by omega, by omega, ?_⟩
  unfold spec_l91Signs.f
  refine Ev.bind e ?_
  simp only [show wrap64 ((low : Int) + (v : Int)) = ((low + v : Nat) : Int) from by rw [wr (by omega) (by omega)]; omega]
  exact es

theorem set_draw {bs : List Int} (h : Bs bs) (p : Nat) (hp : p ≤ 50000) : ∃ (s : ByteArray) (q : Nat), s.size ≤ 100 ∧ q ≤ p + 100 ∧ Ev (fun k => spec_l91Set.f k bs p) (s, (q : Int)) := by
  obtain ⟨s1, p1, hs1, hp1, e1⟩ := signs_draw h p 0 6 (by omega) (by omega) (by omega) (by omega)
  obtain ⟨s2, p2, hs2, hp2, e2⟩ := signs_draw h p1 1 5 (by omega) (by omega) (by omega) (by omega)
  obtain ⟨v, hv, e3⟩ := pick_ev h p2 24 (by omega) (by omega) (by omega)
  have z1 : (⟨#[40]⟩ : ByteArray).size = 1 := rfl
  have z2 : (⟨#[41]⟩ : ByteArray).size = 1 := rfl
  have z3 : (⟨#[40, 48, 41]⟩ : ByteArray).size = 3 := rfl
  have key : ∃ (s : ByteArray) (q : Nat), s.size ≤ 100 ∧ q ≤ p + 100 ∧ Ev (fun k => if (v : Int) = 0 then ((some (([(⟨#[]⟩ : ByteArray), (⟨#[48]⟩ : ByteArray), (⟨#[40, 41]⟩ : ByteArray), (⟨#[49, 40]⟩ : ByteArray), (⟨#[40, 48, 41, 41]⟩ : ByteArray), (⟨#[97, 40, 49, 41]⟩ : ByteArray), (⟨#[40, 49, 41, 48]⟩ : ByteArray), (⟨#[48, 49, 40, 48, 50, 41]⟩ : ByteArray), (⟨#[48, 40, 40, 49, 41]⟩ : ByteArray)] : List ByteArray) : List ByteArray)).bind fun y => ((spec_l6Rd_pick.f k bs ((p2 + 1 : Nat) : Int) 9).bind fun x => (if 0 ≤ x.1 then (if x.1 < (y.length : Int) then (some (rdOf ByteArray.empty y x.1, x.2)) else (none)) else (none)))) else (if (v : Int) = 1 then ((spec_l91Signs.f k bs ((p2 + 1 : Nat) : Int) 0 6).bind fun x => (if x.1.size + 3 ≤ 9223372036854775807 then (some (x.1 ++ (⟨#[40, 48, 41]⟩ : ByteArray), x.2)) else (none))) else (if (v : Int) = 2 then (if 1 ≤ ((((s1 ++ (⟨#[40]⟩ : ByteArray)) ++ s2) ++ (⟨#[41]⟩ : ByteArray)).size : Int) then (if 1 + ((((s1 ++ (⟨#[40]⟩ : ByteArray)) ++ s2) ++ (⟨#[41]⟩ : ByteArray)).extract 1 (((s1 ++ (⟨#[40]⟩ : ByteArray)) ++ s2) ++ (⟨#[41]⟩ : ByteArray)).size).size ≤ 9223372036854775807 then (some ((⟨#[40]⟩ : ByteArray) ++ ((((s1 ++ (⟨#[40]⟩ : ByteArray)) ++ s2) ++ (⟨#[41]⟩ : ByteArray)).extract 1 (((s1 ++ (⟨#[40]⟩ : ByteArray)) ++ s2) ++ (⟨#[41]⟩ : ByteArray)).size), ((p2 + 1 : Nat) : Int))) else (none)) else (none)) else (some (((s1 ++ (⟨#[40]⟩ : ByteArray)) ++ s2) ++ (⟨#[41]⟩ : ByteArray), ((p2 + 1 : Nat) : Int)))))) (s, (q : Int)) := by
    by_cases c0 : v = 0
    · obtain ⟨u, hu, e4⟩ := pick_ev h (p2 + 1) 9 (by omega) (by omega) (by omega)
      refine ⟨rdOf ByteArray.empty [(⟨#[]⟩ : ByteArray), (⟨#[48]⟩ : ByteArray), (⟨#[40, 41]⟩ : ByteArray), (⟨#[49, 40]⟩ : ByteArray), (⟨#[40, 48, 41, 41]⟩ : ByteArray), (⟨#[97, 40, 49, 41]⟩ : ByteArray), (⟨#[40, 49, 41, 48]⟩ : ByteArray), (⟨#[48, 49, 40, 48, 50, 41]⟩ : ByteArray), (⟨#[48, 40, 40, 49, 41]⟩ : ByteArray)] (u : Int), p2 + 1 + 1, ?_, by omega, ?_⟩
      · have : u = 0 ∨ u = 1 ∨ u = 2 ∨ u = 3 ∨ u = 4 ∨ u = 5 ∨ u = 6 ∨ u = 7 ∨ u = 8 := by omega
        rcases this with rfl | rfl | rfl | rfl | rfl | rfl | rfl | rfl | rfl <;> decide
      · simp only [if_pos (show (v : Int) = 0 from by omega), Option.bind_some]
        refine Ev.bind e4 (Ev.const fun k => ?_)
        rw [if_pos (by omega), if_pos (by simp; omega)]
    · simp only [if_neg (show ¬ (v : Int) = 0 from by omega)]
      by_cases c1 : v = 1
      · obtain ⟨s4, p4, hs4, hp4, e4⟩ := signs_draw h (p2 + 1) 0 6 (by omega) (by omega) (by omega) (by omega)
        refine ⟨s4 ++ ⟨#[40, 48, 41]⟩, p4, by rw [ByteArray.size_append, z3]; omega, by omega, ?_⟩
        simp only [if_pos (show (v : Int) = 1 from by omega)]
        refine Ev.bind e4 (Ev.const fun k => ?_)
        rw [if_pos (by show s4.size + 3 ≤ 9223372036854775807; omega)]
      · simp only [if_neg (show ¬ (v : Int) = 1 from by omega)]
        have hsz : (((s1 ++ (⟨#[40]⟩ : ByteArray)) ++ s2) ++ (⟨#[41]⟩ : ByteArray)).size = s1.size + 1 + s2.size + 1 := by
          rw [ByteArray.size_append, ByteArray.size_append, ByteArray.size_append, z1, z2]
        by_cases c2 : v = 2
        · simp only [if_pos (show (v : Int) = 2 from by omega)]
          have hx : ((((s1 ++ (⟨#[40]⟩ : ByteArray)) ++ s2) ++ (⟨#[41]⟩ : ByteArray)).extract 1 (((s1 ++ (⟨#[40]⟩ : ByteArray)) ++ s2) ++ (⟨#[41]⟩ : ByteArray)).size).size = s1.size + 1 + s2.size := by
            rw [ext_size _ _ _ (Nat.le_refl _), hsz]; omega
          refine ⟨(⟨#[40]⟩ : ByteArray) ++ ((((s1 ++ (⟨#[40]⟩ : ByteArray)) ++ s2) ++ (⟨#[41]⟩ : ByteArray)).extract 1 (((s1 ++ (⟨#[40]⟩ : ByteArray)) ++ s2) ++ (⟨#[41]⟩ : ByteArray)).size), p2 + 1, ?_, by omega, Ev.const fun k => ?_⟩
          · rw [ByteArray.size_append, z1, hx]; omega
          · rw [if_pos (by omega), if_pos (by omega)]
        · simp only [if_neg (show ¬ (v : Int) = 2 from by omega)]
          exact ⟨_, p2 + 1, by rw [hsz]; omega, by omega, Ev.now _⟩
  obtain ⟨s, q, g1, g2, g3⟩ := key
  refine ⟨s, q, g1, g2, ?_⟩
  unfold spec_l91Set.f
  refine Ev.bind e1 ?_
  simp only [if_pos (show s1.size + 1 ≤ 9223372036854775807 from by omega)]
  refine Ev.bind e2 ?_
  have w1 : s1.size + 1 + s2.size ≤ 9223372036854775807 := by omega
  have w2 : s1.size + 1 + s2.size + 1 ≤ 9223372036854775807 := by omega
  simp only [if_pos w1, if_pos w2]
  exact Ev.bind e3 g3

end Go.Proofs.Ytpkpgdlbgcjloaa.Q
