/- The rows of a set tell it; no condition beyond the statement's own. -/
import Derived.Laws.FloatArith
import Derived.Test.YtdoghlojgofmaaaCFnRowsOf2
import Derived.Test.YtdoghlojgofmaaaCFnRowsOf4
import Derived.Test.YtdoghlojgofmaaaCFnRowsOf10
import Derived.Test.YtdoghlojgofmaaaCFnRowsOf11
import Derived.Test.YtdoghlojgofmaaaCFnRowsOf14
namespace Go.Proofs.Ytdoghlojgofmaaa.Q
open Go.RowKit Go.Proofs.YtdoghlojgofmaaaW.PrintWords Go.Proofs.YtdoghlojgofmaaaW.PrintLast Go.Proofs.YtdoghlojgofmaaaW.PrintMore
attribute [local go_sem] max2_int min2_int max_two min_two max_three min_three max_four min_four   -- for this text's walks alone
set_option linter.unusedVariables false
set_option linter.unusedSimpArgs false
def RowAny.f (l0 : List S79) (p_ : S79 → Option Bool) : Option Bool := (RowIdx.f p_ l0 0).bind fun i => some (decide (i ≥ 0))
theorem RowAny.mono (p_ q_ : S79 → Option Bool) (hp_ : ∀ n, LeO (p_ n) (q_ n)) (l0 : List S79) : LeO (RowAny.f l0 p_) (RowAny.f l0 q_) := LeO.bind (RowIdx.mono p_ q_ hp_ l0 0) (fun _ => LeO.refl _)
set_option maxHeartbeats 1000000 in
set_option maxRecDepth 100000 in
theorem RowAny.calls (A0 : Option Addr) (c0 : Nat) (l0 : List S79) (p_ : S79 → Option Bool) (g_ : Nat) (lb_ : Array Value) (r : Bool) (w : World) (hr0 : Kd.C k79 w A0 l0.length l0) (hs : l0.length < 8796093022208) (eg_ : ∀ args w, (callFunc g_ args).run Try.prog w = .ok (.enter g_ args) w) (hp_ : RowIdx.Gives w p_ g_ lb_) (h : RowAny.f l0 p_ = some r) :
  Calls Try.prog 48 #[.slice A0 l0.length c0, .func (.func g_) #[] lb_] w fun e w' => e = .returned (.bool r) ∧ Below w.heap.size w w' := by
 unfold RowAny.f at h
 obtain ⟨i, hi, h⟩ := Option.bind_eq_some_iff.mp h
 obtain rfl := Option.some.inj h
 have C := RowIdx.calls A0 c0 l0 p_ g_ lb_ i w hr0 hs eg_ hp_ hi
 clear h hi hr0 eg_ hp_
 go_enter Try.func48, Try.ntmps48
 go_wp2_with (go_at_call 76; refine C.mono ?_; rintro e w' ⟨rfl, hb⟩)
 go_ret
 exact ⟨by simp, hb⟩
/-- The first round: true (nothing), or the rows that meet, the sum of their shares and the least number of parts. -/
def RowCov.scan (k : Nat) (b s : Int) : List S79 → List S79 → Nat → Int → Option (Option (List S79 × Nat × Int))
 | [], left, S, best => some (some (left, S, best))
 | x :: xs, left, S, best => (impl_row_meets.f k b s x.f0 x.f1).bind fun m => if m = true then ((impl_gcd.f k s x.f1).bind fun g => if g = 0 then none else if wrap64 (Int.tdiv x.f1 g) = 1 then some none else (floatBits .quo .f64 4607182418800017408 (floatOfInt .f64 (wrap64 (Int.tdiv x.f1 g)))).bind fun d => (floatBits .add .f64 S d).bind fun S2 => RowCov.scan k b s xs (left ++ [x]) S2 (if best = 0 then wrap64 (Int.tdiv x.f1 g) else if wrap64 (Int.tdiv x.f1 g) < best then wrap64 (Int.tdiv x.f1 g) else best)) else RowCov.scan k b s xs left S best
/-- All of so many, from one on. -/
def RowCov.all (g : Nat → Option Bool) : Nat → Nat → Option Bool
 | 0, _ => some true
 | d + 1, i => (g i).bind fun b => if b = true then RowCov.all g d (i + 1) else some false
def RowCov.f : Nat → Int → Int → List S79 → Option Bool
 | 0, _, _, _ => none
 | k + 1, b, s, l => (RowCov.scan k b s l [] 0 0).bind fun y => match y with
  | none => some true
  | some (left, S, best) => if (FloatKind.f64.format.order S 4607182418791010209 == some .lt) = true then some false else (impl_prime.f k best).bind fun p => if 0 ≤ p ∧ p ≤ 1000000 then RowCov.all (fun i => RowCov.f k (wrap64 (b + wrap64 ((i : Int) * s))) (wrap64 (s * p)) left) p.toNat 0 else none
theorem RowCov.mono_s (k : Nat) (b s : Int) : ∀ l left S best, LeO (RowCov.scan k b s l left S best) (RowCov.scan (k + 1) b s l left S best) := by
 intro l
 induction l with
 | nil => intro left S best; exact LeO.refl _
 | cons x xs ih =>
  intro left S best
  unfold RowCov.scan
  exact LeO.bind (impl_row_meets.mono _ _ _ _ _) (fun _ => LeO.ite (LeO.bind (impl_gcd.mono _ _ _) (fun _ => LeO.ite (LeO.refl _) (LeO.ite (LeO.refl _) (LeO.bind (LeO.refl _) (fun _ => LeO.bind (LeO.refl _) (fun _ => ih _ _ _)))))) (ih _ _ _))
theorem RowCov.mono_a {g h : Nat → Option Bool} (hg : ∀ i, LeO (g i) (h i)) : ∀ d i, LeO (RowCov.all g d i) (RowCov.all h d i) := by
 intro d
 induction d with
 | zero => intro i; exact LeO.refl _
 | succ d ih => intro i; exact LeO.bind (hg i) (fun _ => LeO.ite (ih _) (LeO.refl _))
theorem RowCov.mono : ∀ k b s l, LeO (RowCov.f k b s l) (RowCov.f (k + 1) b s l) := by
 intro k
 induction k with
 | zero => intro b s l; exact LeO.none _
 | succ k ih =>
  intro b s l
  unfold RowCov.f
  refine LeO.bind (RowCov.mono_s k b s l [] 0 0) (fun y => ?_)
  cases y with
  | none => exact LeO.refl _
  | some y => exact LeO.ite (LeO.refl _) (LeO.bind (impl_prime.mono _ _) (fun p => LeO.ite (RowCov.mono_a (fun i => ih _ _ _) _ _) (LeO.refl _)))
theorem RowCov.drop (l : List S79) (i : Nat) (h : i < l.length) : ∃ x, l[i]? = some x ∧ rd_T79 l (i : Int) = x ∧ l.drop i = x :: l.drop (i + 1) := by
 refine ⟨l[i], List.getElem?_eq_getElem h, ?_, List.drop_eq_getElem_cons h⟩
 simp [rd_T79, List.getD, h]
set_option maxHeartbeats 8000000 in
set_option maxRecDepth 100000 in
theorem RowCov.calls (k : Nat) : ∀ (b s : Int) (A : Option Addr) (c : Nat) (l : List S79) (r : Bool) (w : World), Kd.C k79 w A l.length l → l.length ≤ c → l.length < 1000 → RowCov.f k b s l = some r →
  Calls Try.prog 71 #[.agg #[.int .i64 b, .int .i64 s], .slice A l.length c] w fun e w' => e = .returned (.bool r) ∧ Below w.heap.size w w' := by
 induction k with
 | zero => intro b s A c l r w _ _ _ h; cases h
 | succ k ih =>
  intro b s A c l r w hr0 hc0 hs h
  unfold RowCov.f at h
  obtain ⟨y, hy, h⟩ := Option.bind_eq_some_iff.mp h
  have IH := Aside0.mk ih; have HR := Aside0.mk hr0; have HY := Aside0.mk hy; have H := Aside0.mk h
  have BR0 := Aside0.mk (blk_new w (.cells #[.int .i64 b, .int .i64 s] 79 (0, 0)))
  have HB0 := Aside0.mk (below_alloc (Below.refl w.heap.size w) (.cells #[.int .i64 b, .int .i64 s] 79 (0, 0)))
  clear ih hr0 hy h
  go_enter Try.func71, Try.ntmps71
  go_wp2
  go_loopw [5, 6, 7, 15] (fun v5 v6 v7 v15 wr => ∃ (i : Nat) (left : List S79) (S : Nat) (best : Int), v5 = .float .f64 S ∧ v6 = .int .i64 best ∧ v15 = .int .i64 i ∧ i ≤ l.length ∧ left.length ≤ i ∧ Aside0 (RowCov.scan k b s (l.drop i) left S best = some y) ∧ Aside0 (Kd.R k79 79 wr w.heap.size (fun k_ => k_ ≠ w.heap.size) v7 left) ∧ Aside0 (wr.heap[w.heap.size]? = some (.cells #[.int .i64 b, .int .i64 s] 79 (0, 0))) ∧ Aside0 (Below w.heap.size w wr)) (fun _ _ _ v15 _ => l.length - (intOf v15).toNat)
  case atStart => exact ⟨0, [], 0, 0, rfl, rfl, rfl, Nat.zero_le _, Nat.zero_le _, HY, ⟨Kd.R_nil _ _ _ _ _⟩, BR0, HB0⟩
  case round =>
   obtain ⟨i, left, S, best, rfl, rfl, rfl, hi, hle, HA, HO, BR1, HB1⟩ := hrel
   clear HY BR0 HB0
   by_cases hlt : i < l.length
   ·obtain ⟨x, hx, hrd, hdr⟩ := RowCov.drop l i hlt
    have hltz : (i : Int) < (l.length : Int) := by omega
    have ha := HA.out
    clear HA
    rw [hdr] at ha
    unfold RowCov.scan at ha
    obtain ⟨m, hm, ha⟩ := Option.bind_eq_some_iff.mp ha
    have HM := Aside0.mk hm
    obtain ⟨ad, e0, x0, x1⟩ := at_T79 (Kd.C_below HR.out HB1.out) (i : Int) (by omega) hltz
    cases e0
    rw [hrd, Int.toNat_natCast] at x0 x1
    obtain ⟨Al, cl, rfl⟩ := Kd.R_slice HO.out
    have BRa := Aside0.mk (blk_alloc BR1.out (.cells #[.int .i64 x.f0, .int .i64 x.f1] 79 (0, 0)))
    have BXa := Aside0.mk (blk_new wr (.cells #[.int .i64 x.f0, .int .i64 x.f1] 79 (0, 0)))
    have HBa := Aside0.mk (below_alloc HB1.out (.cells #[.int .i64 x.f0, .int .i64 x.f1] 79 (0, 0)))
    have HOa := Aside0.mk (Kd.R_alloc HO.out (.cells #[.int .i64 x.f0, .int .i64 x.f1] 79 (0, 0)))
    have a0 := blk_cell BRa.out 0; have a1 := blk_cell BRa.out 1
    clear hm hdr hrd hx HO BR1 HB1
    cases m with
    | false =>
     simp only [Bool.false_eq_true, if_false] at ha
     have HA := Aside0.mk ha
     clear ha
     go_wp2_with (go_at_call 88; refine (impl_row_meets.calls k b s x.f0 x.f1 false _ HM.out).mono ?_; rintro e w2 ⟨rfl, hd⟩; have BR2 := Aside0.mk (blk_below BRa.out hd); have BX2 := Aside0.mk (blk_below BXa.out hd); have HB2 := Aside0.mk (below_step HBa.out hd); have HO2 := Aside0.mk (Kd.R_below HOa.out hd); clear hd a0 a1 BRa BXa HBa HOa; have r0 := blk_cell BR2.out 0; have r1 := blk_cell BR2.out 1; have q0 := blk_cell BX2.out 0; have q1 := blk_cell BX2.out 1)
     go_roundw
     case rel => exact ⟨i + 1, left, S, best, rfl, rfl, by go_num, by omega, by omega, HA, HO2, BR2, HB2⟩
     case measure => simp [intOf]; omega
    | true =>
     simp only [if_true] at ha
     obtain ⟨g, hg, ha⟩ := Option.bind_eq_some_iff.mp ha
     by_cases g0 : g = 0
     ·rw [if_pos g0] at ha; cases ha
     rw [if_neg g0] at ha
     have g0b : (g == 0) = false := beq_eq_false_iff_ne.mpr g0
     have g0c : (g != 0) = true := bne_iff_ne.mpr g0
     obtain ⟨Q, hQ⟩ : ∃ Q, wrap64 (Int.tdiv x.f1 g) = Q := ⟨_, rfl⟩
     rw [hQ] at ha
     have HG := Aside0.mk hg
     clear hg
     go_wp2_with (go_at_call 88; refine (impl_row_meets.calls k b s x.f0 x.f1 true _ HM.out).mono ?_; rintro e w2 ⟨rfl, hd⟩; have BR2 := Aside0.mk (blk_below BRa.out hd); have BX2 := Aside0.mk (blk_below BXa.out hd); have HB2 := Aside0.mk (below_step HBa.out hd); have HO2 := Aside0.mk (Kd.R_below HOa.out hd); clear hd a0 a1 BRa BXa HBa HOa; have r0 := blk_cell BR2.out 0; have r1 := blk_cell BR2.out 1; have q0 := blk_cell BX2.out 0; have q1 := blk_cell BX2.out 1)
     have HBd := Aside0.mk (below_drew1 HB2.out)
     have BRd := Aside0.mk (blk_drew BR2.out)
     have BXd := Aside0.mk (blk_drew BX2.out)
     have HOd := Aside0.mk (Kd.R_drew HO2.out)
     clear HB2 BR2 BX2 HO2 r0 r1 q0 q1
     go_region_held3 (fun w' => w'.cell? ⟨wr.heap.size, 1, none⟩ = some (.int .i64 x.f1) ∧ w'.cell? ⟨w.heap.size, 1, none⟩ = some (.int .i64 s)) (exact ⟨blk_cell BXd.out 1, blk_cell BRd.out 1⟩) (first | (go_at_call 72; refine (impl_gcd.calls k s x.f1 g _ HG.out).mono ?_; rintro e w3 ⟨rfl, hd_⟩; have hd := Drawn0.below hd_; clear hd_; replace HBd := Aside0.mk (below_step HBd.out hd); replace BRd := Aside0.mk (blk_below BRd.out hd); replace BXd := Aside0.mk (blk_below BXd.out hd); replace HOd := Aside0.mk (Kd.R_below HOd.out hd); clear hd))
     have hQ2 : IntKind.i64.wrap (Int.tdiv x.f1 g) = Q := by rw [← hQ, i64_w]
     rw [hQ2]
     clear hQ hQ2
     by_cases hq1 : Q = 1
     ·subst hq1
      rw [if_pos rfl] at ha
      obtain rfl := Option.some.inj ha
      have h := H.out
      obtain rfl := Option.some.inj h
      go_wp2
      go_ret
      exact ⟨rfl, HBd.out⟩
     ·rw [if_neg hq1] at ha
      obtain ⟨d, hd, ha⟩ := Option.bind_eq_some_iff.mp ha
      obtain ⟨S2, hS2, ha⟩ := Option.bind_eq_some_iff.mp ha
      have hq1b : (Q == 1) = false := beq_eq_false_iff_ne.mpr hq1
      have hf1 : ∀ W, (binOp .quo 121 (.float .f64 4607182418800017408) (.float .f64 (floatOfInt .f64 Q))).run Try.prog W = .ok (.float .f64 d) W := fun W => run_float_arith W .quo 121 .f64 _ _ d hd
      have hf2 : ∀ W, (binOp .add 121 (.float .f64 S) (.float .f64 d)).run Try.prog W = .ok (.float .f64 S2) W := fun W => run_float_arith W .add 121 .f64 _ _ S2 hS2
      have HA := Aside0.mk ha
      have z0 := blk_cell BXd.out 0; have z1 := blk_cell BXd.out 1
      clear ha hd hS2 hq1
      by_cases hb0 : best = 0
      ·subst hb0
       simp only [if_true] at HA
       go_wp2_with (first | ((with_reducible refine gate_builtin (b := .append) (xs := #[.tmp 33, .tmp 35]) rfl ?_); at_builtin; refine Kd.R_append k79 (w0 := w) w.heap.size rfl (.tmp 33) (.tmp 35) 72 79 (.agg #[(.int .i64 0), (.int .i64 0)]) 16 rfl Try.underlying72 info79 rfl (by decide) (by omega) (.slice Al left.length cl) left x [.int .i64 x.f0, .int .i64 x.f1] (fun k_ => k_ ≠ w.heap.size) (fun _ => False) rfl rfl ?aP (fun _ hk => hk.elim) ?aF ?aO ?aB ?aS ?aL ?_; (case aP => exact k79_mkM _ _ _ _); (case aB => exact HBd.out); (case aF => exact (fun k_ hk_ e_ => by have := blk_lt BRd.out; omega)); (case aO => exact HOd.out); (case aS => exact HBd.out.size); (case aL => omega); intro vn wn ho hb hg hat; have BR4 := Aside0.mk (blk_grown BRd.out hg (fun e_ => HOd.out.1 _ e_.symm rfl)); have HB4 := Aside0.mk hb; have HO4 := Aside0.mk ho; clear ho hb hg hat z0 z1))
       go_roundw
       case rel => exact ⟨i + 1, left ++ [x], S2, Q, rfl, rfl, by go_num, by omega, by simp; omega, HA, HO4, BR4, HB4⟩
       case measure => simp [intOf]; omega
      ·have hb0b : (best == 0) = false := beq_eq_false_iff_ne.mpr hb0
       simp only [if_neg hb0] at HA
       clear hb0
       by_cases hqb : Q < best
       ·simp only [if_pos hqb] at HA
        go_wp2_with (first | ((with_reducible refine gate_builtin (b := .append) (xs := #[.tmp 33, .tmp 35]) rfl ?_); at_builtin; refine Kd.R_append k79 (w0 := w) w.heap.size rfl (.tmp 33) (.tmp 35) 72 79 (.agg #[(.int .i64 0), (.int .i64 0)]) 16 rfl Try.underlying72 info79 rfl (by decide) (by omega) (.slice Al left.length cl) left x [.int .i64 x.f0, .int .i64 x.f1] (fun k_ => k_ ≠ w.heap.size) (fun _ => False) rfl rfl ?aP (fun _ hk => hk.elim) ?aF ?aO ?aB ?aS ?aL ?_; (case aP => exact k79_mkM _ _ _ _); (case aB => exact HBd.out); (case aF => exact (fun k_ hk_ e_ => by have := blk_lt BRd.out; omega)); (case aO => exact HOd.out); (case aS => exact HBd.out.size); (case aL => omega); intro vn wn ho hb hg hat; have BR4 := Aside0.mk (blk_grown BRd.out hg (fun e_ => HOd.out.1 _ e_.symm rfl)); have HB4 := Aside0.mk hb; have HO4 := Aside0.mk ho; clear ho hb hg hat z0 z1))
        go_roundw
        case rel => exact ⟨i + 1, left ++ [x], S2, Q, rfl, rfl, by go_num, by omega, by simp; omega, HA, HO4, BR4, HB4⟩
        case measure => simp [intOf]; omega
       ·simp only [if_neg hqb] at HA
        go_wp2_with (first | ((with_reducible refine gate_builtin (b := .append) (xs := #[.tmp 33, .tmp 35]) rfl ?_); at_builtin; refine Kd.R_append k79 (w0 := w) w.heap.size rfl (.tmp 33) (.tmp 35) 72 79 (.agg #[(.int .i64 0), (.int .i64 0)]) 16 rfl Try.underlying72 info79 rfl (by decide) (by omega) (.slice Al left.length cl) left x [.int .i64 x.f0, .int .i64 x.f1] (fun k_ => k_ ≠ w.heap.size) (fun _ => False) rfl rfl ?aP (fun _ hk => hk.elim) ?aF ?aO ?aB ?aS ?aL ?_; (case aP => exact k79_mkM _ _ _ _); (case aB => exact HBd.out); (case aF => exact (fun k_ hk_ e_ => by have := blk_lt BRd.out; omega)); (case aO => exact HOd.out); (case aS => exact HBd.out.size); (case aL => omega); intro vn wn ho hb hg hat; have BR4 := Aside0.mk (blk_grown BRd.out hg (fun e_ => HOd.out.1 _ e_.symm rfl)); have HB4 := Aside0.mk hb; have HO4 := Aside0.mk ho; clear ho hb hg hat z0 z1))
        go_roundw
        case rel => exact ⟨i + 1, left ++ [x], S2, best, rfl, rfl, by go_num, by omega, by simp; omega, HA, HO4, BR4, HB4⟩
        case measure => simp [intOf]; omega
   ·obtain rfl : i = l.length := by omega
    have hltz : ¬ (l.length : Int) < (l.length : Int) := by omega
    have ha := HA.out
    clear HA
    rw [List.drop_length] at ha
    obtain rfl := Option.some.inj ha
    have h := H.out
    clear H ha
    simp only at h
    have c0 := blk_cell BR1.out 0; have c1 := blk_cell BR1.out 1
    by_cases ho : (FloatKind.f64.format.order S 4607182418791010209 == some .lt) = true
    ·rw [if_pos ho] at h
     obtain rfl := Option.some.inj h
     go_wp2
     go_ret
     exact ⟨rfl, HB1.out⟩
    ·rw [if_neg ho] at h
     have ho2 : (FloatKind.f64.format.order S 4607182418791010209 == some .lt) = false := Bool.eq_false_iff.mpr ho
     clear ho
     obtain ⟨p, hp, h⟩ := Option.bind_eq_some_iff.mp h
     split at h
     case isFalse => cases h
     rename_i hp2
     obtain ⟨P, rfl⟩ : ∃ P : Nat, p = (P : Int) := ⟨p.toNat, by omega⟩
     rw [Int.toNat_natCast] at h
     have HP := Aside0.mk hp
     have H := Aside0.mk h
     have hPb : P ≤ 1000000 := by omega
     clear hp h hp2
     obtain ⟨Al, cl, rfl⟩ := Kd.R_slice HO.out
     go_wp2_with (go_at_call 89; refine (impl_prime.calls k best (P : Int) _ HP.out).mono ?_; rintro e w2 ⟨rfl, hd_⟩; have hd := Drawn0.below hd_; clear hd_; have BR2 := Aside0.mk (blk_below BR1.out hd); have HB2 := Aside0.mk (below_step HB1.out hd); have HO2 := Aside0.mk (Kd.R_below HO.out hd); clear hd c0 c1 BR1 HB1 HO)
     go_loopw [56] (fun v56 wl => ∃ i : Nat, v56 = .int .i64 i ∧ i ≤ P ∧ Aside0 (RowCov.all (fun i => RowCov.f k (wrap64 (b + wrap64 ((i : Int) * s))) (wrap64 (s * (P : Int))) left) (P - i) i = some r) ∧ Aside0 (Kd.R k79 79 wl w.heap.size (fun k_ => k_ ≠ w.heap.size) (.slice Al left.length cl) left) ∧ Aside0 (wl.heap[w.heap.size]? = some (.cells #[.int .i64 b, .int .i64 s] 79 (0, 0))) ∧ Aside0 (Below w.heap.size w wl)) (fun v56 _ => P - (intOf v56).toNat)
     case atStart => exact ⟨0, rfl, Nat.zero_le _, H, HO2, BR2, HB2⟩
     case round =>
      obtain ⟨i, rfl, hi2, HA, HO3, BR3, HB3⟩ := hrel
      clear H HO2 BR2 HB2
      have c0 := blk_cell BR3.out 0; have c1 := blk_cell BR3.out 1
      by_cases hlt2 : i < P
      ·have hlt2z : (i : Int) < (P : Int) := by omega
       have ha := HA.out
       clear HA
       rw [show P - i = (P - (i + 1)) + 1 by omega] at ha
       unfold RowCov.all at ha
       obtain ⟨q, hq, ha⟩ := Option.bind_eq_some_iff.mp ha
       have HQ := Aside0.mk hq
       clear hq
       cases q with
       | true =>
        simp only [if_true] at ha
        have HA := Aside0.mk ha
        clear ha
        go_wp2_with (go_at_call 71; refine (IH.out _ _ Al cl left true _ (Kd.R_reads' HO3.out).2.2 (Kd.R_reads' HO3.out).2.1 (by omega) HQ.out).mono ?_; rintro e w4 ⟨rfl, hd⟩; have BR4 := Aside0.mk (blk_below BR3.out hd); have HB4 := Aside0.mk (below_step HB3.out hd); have HO4 := Aside0.mk (Kd.R_below HO3.out hd); clear hd c0 c1)
        go_roundw
        case rel => exact ⟨i + 1, by go_num, by omega, HA, HO4, BR4, HB4⟩
        case measure => simp [intOf]; omega
       | false =>
        simp only [Bool.false_eq_true, if_false] at ha
        obtain rfl := Option.some.inj ha
        go_wp2_with (go_at_call 71; refine (IH.out _ _ Al cl left false _ (Kd.R_reads' HO3.out).2.2 (Kd.R_reads' HO3.out).2.1 (by omega) HQ.out).mono ?_; rintro e w4 ⟨rfl, hd⟩; have BR4 := Aside0.mk (blk_below BR3.out hd); have HB4 := Aside0.mk (below_step HB3.out hd); have HO4 := Aside0.mk (Kd.R_below HO3.out hd); clear hd c0 c1)
        go_ret
        exact ⟨rfl, HB4.out⟩
      ·obtain rfl : i = P := by omega
       have hlt2z : ¬ (i : Int) < (i : Int) := by omega
       have ha := HA.out
       rw [Nat.sub_self] at ha
       obtain rfl := Option.some.inj ha
       go_wp2
       go_ret
       exact ⟨rfl, HB3.out⟩
/-- What the question of one round answers. -/
def impl_again.p (k : Nat) (size : Int) (l : List S79) (x : S79) : Option Bool := (impl_gcd.f k x.f1 size).bind fun g => (RowCov.f k x.f0 g l).bind fun b => some (!b)
def impl_again.loop (k : Nat) (l : List S79) : Nat → Nat → Option Int
 | 0, _ => some 0
 | d + 1, i => (RowAny.f l (impl_again.p k (i : Int) l)).bind fun b => if b = true then impl_again.loop k l d (i + 1) else some (i : Int)
def impl_again.f (k : Nat) (l : List S79) : Option Int := if l.length < 1000 then impl_again.loop k l 60 1 else none
theorem impl_again.mono_p (size : Int) (l : List S79) (k : Nat) (x : S79) : LeO (impl_again.p k size l x) (impl_again.p (k + 1) size l x) := LeO.bind (impl_gcd.mono _ _ _) (fun _ => LeO.bind (RowCov.mono _ _ _ _) (fun _ => LeO.refl _))
theorem impl_again.mono_l (l : List S79) (k : Nat) : ∀ d i, LeO (impl_again.loop k l d i) (impl_again.loop (k + 1) l d i) := by
 intro d
 induction d with
 | zero => intro i; exact LeO.refl _
 | succ d ih => intro i; exact LeO.bind (RowAny.mono _ _ (fun x => impl_again.mono_p _ _ _ x) _) (fun _ => LeO.ite (ih _) (LeO.refl _))
theorem impl_again.mono : ∀ l k, LeO (impl_again.f k l) (impl_again.f (k + 1) l) := fun l k => LeO.ite (impl_again.mono_l l k _ _) (LeO.refl _)
set_option maxHeartbeats 2000000 in
set_option maxRecDepth 100000 in
theorem impl_again.lit (k : Nat) (B1 B2 : Nat) (A : Option Addr) (c : Nat) (l : List S79) (size : Int) (x : S79) (q : Bool) (W : World) (h1 : W.heap[B1]? = some (.cells #[.int .i64 size] 3 (0, 0))) (h2 : W.heap[B2]? = some (.cells #[.slice A l.length c] 72 (0, 0))) (r0 : Kd.C k79 W A l.length l) (hc : l.length ≤ c) (hs : l.length < 1000) (h : impl_again.p k size l x = some q) :
  Calls Try.prog 70 #[.agg #[.int .i64 x.f0, .int .i64 x.f1], .pointer (some ⟨B1, 0, none⟩), .pointer (some ⟨B2, 0, none⟩)] W fun e W' => e = .returned (.bool q) ∧ Below W.heap.size W W' := by
 unfold impl_again.p at h
 obtain ⟨g, hg, h⟩ := Option.bind_eq_some_iff.mp h
 obtain ⟨b, hb, h⟩ := Option.bind_eq_some_iff.mp h
 obtain rfl := Option.some.inj h
 have HG := Aside0.mk hg; have HQ := Aside0.mk hb; have HR := Aside0.mk r0
 have B10 := Aside0.mk (blk_alloc h1 (.cells #[.int .i64 x.f0, .int .i64 x.f1] 79 (0, 0))); have B20 := Aside0.mk (blk_alloc h2 (.cells #[.int .i64 x.f0, .int .i64 x.f1] 79 (0, 0))); have BX0 := Aside0.mk (blk_new W (.cells #[.int .i64 x.f0, .int .i64 x.f1] 79 (0, 0))); have HB0 := Aside0.mk (below_alloc (Below.refl W.heap.size W) (.cells #[.int .i64 x.f0, .int .i64 x.f1] 79 (0, 0)))
 clear h hg hb h1 h2 r0
 go_enter Try.func70, Try.ntmps70
 go_wp2
 have HBd := Aside0.mk (below_drew1 HB0.out)
 have B1d := Aside0.mk (blk_drew B10.out); have B2d := Aside0.mk (blk_drew B20.out); have BXd := Aside0.mk (blk_drew BX0.out)
 go_region_held3 (fun w' => w'.cell? ⟨W.heap.size, 0, none⟩ = some (.int .i64 x.f0) ∧ w'.cell? ⟨W.heap.size, 1, none⟩ = some (.int .i64 x.f1) ∧ w'.cell? ⟨B1, 0, none⟩ = some (.int .i64 size) ∧ w'.cell? ⟨B2, 0, none⟩ = some (.slice A l.length c)) (exact ⟨blk_cell BXd.out 0, blk_cell BXd.out 1, blk_cell B1d.out 0, blk_cell B2d.out 0⟩) (first | (go_at_call 72; refine (impl_gcd.calls k x.f1 size g _ HG.out).mono ?_; rintro e w3 ⟨rfl, hd_⟩; have hd := Drawn0.below hd_; clear hd_; replace HBd := Aside0.mk (below_step HBd.out hd); replace B1d := Aside0.mk (blk_below B1d.out hd); replace B2d := Aside0.mk (blk_below B2d.out hd); replace BXd := Aside0.mk (blk_below BXd.out hd); clear hd) | (go_at_call 71; refine (RowCov.calls k x.f0 g A c l b _ (Kd.C_below HR.out HBd.out) hc hs HQ.out).mono ?_; rintro e w4 ⟨rfl, hd⟩; replace HBd := Aside0.mk (below_step HBd.out hd); replace B1d := Aside0.mk (blk_below B1d.out hd); replace B2d := Aside0.mk (blk_below B2d.out hd); replace BXd := Aside0.mk (blk_below BXd.out hd); clear hd))
 go_wp2
 go_ret
 exact ⟨rfl, HBd.out⟩
set_option maxHeartbeats 4000000 in
set_option maxRecDepth 100000 in
theorem impl_again.calls (k : Nat) (A0 : Option Addr) (c0 : Nat) (l0 : List S79) (r : Int) (w : World) (hr0 : Kd.C k79 w A0 l0.length l0) (hc0 : l0.length ≤ c0) (h : impl_again.f k l0 = some r) :
  Calls Try.prog 45 #[.slice A0 l0.length c0] w fun e w' => e = .returned (.int .i64 r) ∧ Below w.heap.size w w' := by
 have hmf : ∀ (fn : Fn) (first cap : Array Value) (w : World), (Instr.makeFunc fn first cap).run Try.prog w = .ok (.func fn first cap) w := fun _ _ _ _ => rfl
 unfold impl_again.f at h
 split at h
 case isFalse => cases h
 rename_i hs
 have HR := Aside0.mk hr0; have H := Aside0.mk h
 have BL0 := Aside0.mk (blk_new w (.cells #[.slice A0 l0.length c0] 72 (0, 0)))
 have HB0 := Aside0.mk (below_alloc (Below.refl w.heap.size w) (.cells #[.slice A0 l0.length c0] 72 (0, 0)))
 have BS0 := blk_new (w.alloc (.cells #[.slice A0 l0.length c0] 72 (0, 0))) (.cells #[.int .i64 1] 3 (0, 0))
 rw [World.size_alloc] at BS0
 replace BS0 := Aside0.mk BS0
 clear hr0 h
 go_enter Try.func45, Try.ntmps45
 go_wp2
 go_loopw [3] (fun v3 wr => ∃ (i gs : Nat), v3 = .pointer (some ⟨gs, 0, none⟩) ∧ 1 ≤ i ∧ i ≤ 61 ∧ Aside0 (impl_again.loop k l0 (61 - i) i = some r) ∧ Aside0 (wr.heap[gs]? = some (.cells #[.int .i64 i] 3 (0, 0))) ∧ Aside0 (wr.heap[w.heap.size]? = some (.cells #[.slice A0 l0.length c0] 72 (0, 0))) ∧ Aside0 (Below w.heap.size w wr)) (fun v3 wr => match v3 with | .pointer (some a) => (match wr.cell? a with | some v => 61 - (intOf v).toNat | none => 0) | _ => 0)
 case atStart => exact ⟨1, _, rfl, by omega, by omega, H, BS0, ⟨blk_alloc BL0.out _⟩, ⟨below_alloc HB0.out _⟩⟩
 case round =>
  obtain ⟨i, gs, rfl, hi1, hi2, HA, BS1, BL1, HB1⟩ := hrel
  clear H BL0 HB0 BS0
  have s0 := blk_cell BS1.out 0; have t0 := blk_cell BL1.out 0
  by_cases hlt : i ≤ 60
  ·have hltz : (i : Int) ≤ 60 := by omega
   have ha := HA.out
   clear HA
   rw [show 61 - i = (60 - i) + 1 by omega] at ha
   unfold impl_again.loop at ha
   obtain ⟨b, hb, ha⟩ := Option.bind_eq_some_iff.mp ha
   have HQ := Aside0.mk hb
   clear hb
   cases b with
   | true =>
    simp only [if_true] at ha
    have HA := Aside0.mk ha
    clear ha
    go_wp2_with (go_at_call 48; refine (RowAny.calls A0 c0 l0 (impl_again.p k (i : Int) l0) 70 #[.pointer (some ⟨gs, 0, none⟩), .pointer (some ⟨w.heap.size, 0, none⟩)] true _ (Kd.C_below HR.out HB1.out) (by omega) (fun args_ w_ => enters_ Try.func70 (by kernel_rfl) rfl args_ w_) (fun x_ b_ W_ hW_ hb_ => impl_again.lit k gs w.heap.size A0 c0 l0 (i : Int) x_ b_ W_ (blk_below BS1.out hW_) (blk_below BL1.out hW_) (Kd.C_below (Kd.C_below HR.out HB1.out) hW_) hc0 hs hb_) HQ.out).mono ?_; rintro e w2 ⟨rfl, hd⟩; have BS2 := Aside0.mk (blk_below BS1.out hd); have BL2 := Aside0.mk (blk_below BL1.out hd); have HB2 := Aside0.mk (below_step HB1.out hd); clear hd s0 t0; have s0 := blk_cell BS2.out 0; have t0 := blk_cell BL2.out 0)
    go_roundw
    case rel => exact ⟨i + 1, _, rfl, by omega, by omega, ⟨by rw [show 61 - (i + 1) = 60 - i by omega]; exact HA.out⟩, ⟨blk_new _ _⟩, ⟨blk_alloc BL2.out _⟩, ⟨below_alloc HB2.out _⟩⟩
    case measure =>
     have e1 : wr.cell? ⟨gs, 0, none⟩ = some (.int .i64 (i : Int)) := blk_cell BS1.out 0
     have e2 : (w2.alloc (.cells #[.int .i64 ((i : Int) + 1)] 3 (0, 0))).cell? ⟨w2.heap.size, 0, none⟩ = some (.int .i64 ((i : Int) + 1)) := blk_cell (blk_new _ _) 0
     simp only [e1, e2]
     simp [intOf]
     omega
   | false =>
    simp only [Bool.false_eq_true, if_false] at ha
    obtain rfl := Option.some.inj ha
    go_wp2_with (go_at_call 48; refine (RowAny.calls A0 c0 l0 (impl_again.p k (i : Int) l0) 70 #[.pointer (some ⟨gs, 0, none⟩), .pointer (some ⟨w.heap.size, 0, none⟩)] false _ (Kd.C_below HR.out HB1.out) (by omega) (fun args_ w_ => enters_ Try.func70 (by kernel_rfl) rfl args_ w_) (fun x_ b_ W_ hW_ hb_ => impl_again.lit k gs w.heap.size A0 c0 l0 (i : Int) x_ b_ W_ (blk_below BS1.out hW_) (blk_below BL1.out hW_) (Kd.C_below (Kd.C_below HR.out HB1.out) hW_) hc0 hs hb_) HQ.out).mono ?_; rintro e w2 ⟨rfl, hd⟩; have BS2 := Aside0.mk (blk_below BS1.out hd); have BL2 := Aside0.mk (blk_below BL1.out hd); have HB2 := Aside0.mk (below_step HB1.out hd); clear hd s0 t0; have s0 := blk_cell BS2.out 0; have t0 := blk_cell BL2.out 0)
    go_ret
    exact ⟨rfl, HB2.out⟩
  ·have hltz : ¬ (i : Int) ≤ 60 := by omega
   obtain rfl : i = 61 := by omega
   have ha := HA.out
   obtain rfl := Option.some.inj ha
   go_wp2
   go_ret
   exact ⟨rfl, HB1.out⟩
end Go.Proofs.Ytdoghlojgofmaaa.Q

namespace Go.Proofs.Ytdoghlojgofmaaa.Q
open Go.RowKit Go.Proofs.YtdoghlojgofmaaaW.PrintWords Go.Proofs.YtdoghlojgofmaaaW.PrintLast Go.Proofs.YtdoghlojgofmaaaW.PrintMore
open Go.Proofs.Ytdoghlojgofmaaa.Pl
set_option linter.unusedVariables false
set_option linter.unusedSimpArgs false
def toS (x : Nat × Nat) : S79 := ⟨(x.1 : Int), (x.2 : Int)⟩
theorem sub_mod_iff (b c g : Nat) : (g : Int) ∣ (b : Int) - (c : Int) ↔ b % g = c % g := by
  rw [← Int.emod_eq_emod_iff_emod_sub_eq_zero.trans (Int.dvd_iff_emod_eq_zero).symm, ← Int.natCast_emod, ← Int.natCast_emod]
  omega
theorem meets_ev (b s : Nat) (x : Nat × Nat) (hb : b ≤ 1000) (hx : x.1 ≤ 1000) (hs : 0 < s) : Ev (fun k => impl_row_meets.f k b s x.1 x.2) (meetsN b s x) := by
  unfold impl_row_meets.f
  refine Ev.bind (gcd_ev x.2 s) (Ev.const fun k => ?_)
  have hg : 0 < Nat.gcd s x.2 := Nat.gcd_pos_of_pos_left _ hs
  rw [if_neg (by omega), wr (by omega) (by omega)]
  congr 1
  unfold meetsN
  rw [Bool.eq_iff_iff, beq_iff_eq, beq_iff_eq, ← sub_mod_iff]
  exact ⟨Int.dvd_of_tmod_eq_zero, Int.tmod_eq_zero_of_dvd⟩
/-- What stands behind the rows that were met. -/
structure Met (b s : Nat) (left : List (Nat × Nat)) (S : Nat) (best : Int) : Prop where
  ok : OkS left.length (shares s left) S
  all : ∀ x ∈ left, meetsN b s x = true ∧ partsN s x ≠ 1
  best : (left = [] ∧ best = 0) ∨ ∃ x ∈ left, best = (partsN s x : Int)
structure Row60 (x : Nat × Nat) : Prop where
  le : x.1 ≤ 59
  dvd : x.2 ∣ 60
theorem Row60.pos {x : Nat × Nat} (h : Row60 x) : 0 < x.2 := Nat.pos_of_dvd_of_pos h.dvd (by omega)
theorem Row60.le2 {x : Nat × Nat} (h : Row60 x) : x.2 ≤ 60 := Nat.le_of_dvd (by omega) h.dvd
theorem parts_dvd {s : Nat} {x : Nat × Nat} (h : Row60 x) : partsN s x ∣ 60 := Nat.dvd_trans (Nat.div_dvd_of_dvd (Nat.gcd_dvd_right s x.2)) h.dvd
theorem parts_pos {s : Nat} {x : Nat × Nat} (h : Row60 x) (hs : 0 < s) : 0 < partsN s x := Nat.div_pos (Nat.le_of_dvd h.pos (Nat.gcd_dvd_right s x.2)) (Nat.gcd_pos_of_pos_left _ hs)
theorem scan_ev {b s : Nat} (hb : b ≤ 1000) (hs : 0 < s) (hs2 : s ≤ 60) : ∀ (l left : List (Nat × Nat)) (S : Nat) (best : Int), (∀ x ∈ l, Row60 x) → left.length + l.length ≤ 6 → (∀ x ∈ left, Row60 x) → Met b s left S best →
    (Ev (fun k => RowCov.scan k b s (l.map toS) (left.map toS) S best) none ∧ ∃ x ∈ l, meetsN b s x = true ∧ partsN s x = 1) ∨ ∃ S2 best2, Ev (fun k => RowCov.scan k b s (l.map toS) (left.map toS) S best) (some ((left ++ l.filter (meetsN b s)).map toS, S2, best2)) ∧ Met b s (left ++ l.filter (meetsN b s)) S2 best2 := by
  intro l
  induction l with
  | nil =>
    intro left S best _ _ _ hm
    refine .inr ⟨S, best, ?_, by simpa using hm⟩
    simp only [List.filter_nil, List.append_nil, List.map_nil]
    exact Ev.now _
  | cons x l ih =>
    intro left S best hl hlen hleft hm
    have hx := hl x (List.mem_cons_self ..)
    have hx1 := hx.le
    have hx2 := hx.le2
    have hl2 : ∀ y ∈ l, Row60 y := fun y hy => hl y (List.mem_cons_of_mem _ hy)
    rw [List.length_cons] at hlen
    have hme := meets_ev b s x hb (by omega) hs
    have op : ∀ (y : Option (List S79 × Nat × Int)), Ev (fun k => if meetsN b s x = true then ((impl_gcd.f k s x.2).bind fun g => if g = 0 then none else if wrap64 (Int.tdiv (x.2 : Int) g) = 1 then some none else (floatBits .quo .f64 4607182418800017408 (floatOfInt .f64 (wrap64 (Int.tdiv (x.2 : Int) g)))).bind fun d => (floatBits .add .f64 S d).bind fun S2 => RowCov.scan k b s (l.map toS) (left.map toS ++ [toS x]) S2 (if best = 0 then wrap64 (Int.tdiv (x.2 : Int) g) else if wrap64 (Int.tdiv (x.2 : Int) g) < best then wrap64 (Int.tdiv (x.2 : Int) g) else best)) else RowCov.scan k b s (l.map toS) (left.map toS) S best) y → Ev (fun k => RowCov.scan k b s ((x :: l).map toS) (left.map toS) S best) y := by
      intro y hy
      rw [List.map_cons]
      unfold RowCov.scan
      exact Ev.bind hme hy
    cases hmx : meetsN b s x with
    | false =>
      rw [hmx] at op
      simp only [Bool.false_eq_true, if_false] at op
      have hf : (x :: l).filter (meetsN b s) = l.filter (meetsN b s) := List.filter_cons_of_neg (by rw [hmx]; simp)
      rcases ih left S best hl2 (by omega) hleft hm with ⟨h1, y, hy, h2⟩ | ⟨S2, best2, h1, h2⟩
      · exact .inl ⟨op _ h1, y, List.mem_cons_of_mem _ hy, h2⟩
      · rw [hf]
        exact .inr ⟨S2, best2, op _ h1, h2⟩
    | true =>
      rw [hmx] at op
      simp only [if_true] at op
      have hg : 0 < Nat.gcd s x.2 := Nat.gcd_pos_of_pos_left _ hs
      have hq : wrap64 (Int.tdiv (x.2 : Int) ((Nat.gcd s x.2 : Nat) : Int)) = (partsN s x : Int) := by
        have : partsN s x ≤ x.2 := Nat.div_le_self _ _
        have e : Int.tdiv (x.2 : Int) ((Nat.gcd s x.2 : Nat) : Int) = (partsN s x : Int) := tdiv_nat _ _
        rw [e, wr (by omega) (by omega)]
      by_cases h1 : partsN s x = 1
      · refine .inl ⟨op _ ?_, x, List.mem_cons_self .., hmx, h1⟩
        refine Ev.bind (gcd_ev x.2 s) (Ev.const fun k => ?_)
        rw [if_neg (by omega), hq, if_pos (by omega)]
      · have hlt : left.length ≤ 5 := by omega
        obtain ⟨S2, e, hS2⟩ := (okS hlt hm.ok).2 _ (parts_mem (parts_dvd hx) h1)
        have hm2 : Met b s (left ++ [x]) S2 (if best = 0 then (partsN s x : Int) else if (partsN s x : Int) < best then (partsN s x : Int) else best) := by
          refine ⟨?_, ?_, .inr ?_⟩
          · have : shares s (left ++ [x]) = shares s left + 60 / partsN s x := by unfold shares; simp
            rw [List.length_append, this]
            exact hS2
          · intro y hy
            rcases List.mem_append.1 hy with hy | hy
            · exact hm.all y hy
            · rw [List.mem_singleton.1 hy]; exact ⟨hmx, h1⟩
          · have hin : x ∈ left ++ [x] := by simp
            by_cases c : best = 0
            · rw [if_pos c]; exact ⟨x, hin, rfl⟩
            · rw [if_neg c]
              by_cases c2 : (partsN s x : Int) < best
              · rw [if_pos c2]; exact ⟨x, hin, rfl⟩
              · rw [if_neg c2]
                rcases hm.best with ⟨_, h0⟩ | ⟨y, hy, h0⟩
                · exact absurd h0 c
                · exact ⟨y, by simp [hy], h0⟩
        have op2 : ∀ y, Ev (fun k => RowCov.scan k b s (l.map toS) ((left ++ [x]).map toS) S2 (if best = 0 then (partsN s x : Int) else if (partsN s x : Int) < best then (partsN s x : Int) else best)) y → Ev (fun k => RowCov.scan k b s ((x :: l).map toS) (left.map toS) S best) y := by
          intro y hy
          refine op _ (Ev.bind (gcd_ev x.2 s) ?_)
          simp only [hq]
          refine Ev.congr (fun k => ?_) hy
          rw [if_neg (by omega), if_neg (by omega)]
          unfold step_ at e
          obtain ⟨d, e1, e2⟩ := Option.bind_eq_some_iff.mp e
          rw [e1, Option.bind_some, e2, Option.bind_some, List.map_append]
          rfl
        have hf : left ++ (x :: l).filter (meetsN b s) = (left ++ [x]) ++ l.filter (meetsN b s) := by rw [List.filter_cons_of_pos hmx, List.append_assoc]; rfl
        rcases ih (left ++ [x]) S2 _ hl2 (by simp; omega) (fun y hy => by
          rcases List.mem_append.1 hy with hy | hy
          · exact hleft y hy
          · rw [List.mem_singleton.1 hy]; exact hx) hm2 with ⟨k1, y, hy, k2⟩ | ⟨S3, best3, k1, k2⟩
        · exact .inl ⟨op2 _ k1, y, List.mem_cons_of_mem _ hy, k2⟩
        · rw [hf]
          exact .inr ⟨S3, best3, op2 _ k1, k2⟩
theorem prime_l0 {n : Nat} (hn : 2 ≤ n) (hn2 : n ≤ 1000) (d : Nat) : ∀ p, p + d = n → 2 ≤ p → ∃ q : Nat, 2 ≤ q ∧ q ∣ n ∧ Ev (fun k => impl_prime.l0 k n p) (q : Int) := by
  induction d with
  | zero =>
    intro p hp h2
    obtain rfl : p = n := by omega
    refine ⟨p, h2, Nat.dvd_refl p, Ev.end fun k => ?_⟩
    simp only [impl_prime.l0]
    rw [if_neg (by omega), tmod_nat, if_pos (by rw [Nat.mod_self]; rfl)]
  | succ d ih =>
    intro p hp h2
    by_cases c : n % p = 0
    · refine ⟨p, h2, Nat.dvd_of_mod_eq_zero c, Ev.end fun k => ?_⟩
      simp only [impl_prime.l0]
      rw [if_neg (by omega), tmod_nat, if_pos (by omega)]
    · obtain ⟨q, q1, q2, q3⟩ := ih (p + 1) (by omega) (by omega)
      refine ⟨q, q1, q2, Ev.step (fun k => ?_) q3⟩
      simp only [impl_prime.l0]
      rw [if_neg (by omega), tmod_nat, if_neg (by omega), wr1 (by omega)]
theorem prime_ev {n : Nat} (hn : 2 ≤ n) (hn2 : n ≤ 1000) : ∃ q : Nat, 2 ≤ q ∧ q ∣ n ∧ Ev (fun k => impl_prime.f k n) (q : Int) := prime_l0 hn hn2 (n - 2) 2 (by omega) (by omega)
theorem all_ev {F : Nat → Nat → Option Bool} {C : Nat → Prop} {p : Nat} (h : ∀ i, i < p → ∃ r, Ev (fun k => F k i) r ∧ (r = true ↔ C i)) (d : Nat) : ∀ i, i + d = p → ∃ r, Ev (fun k => RowCov.all (fun i => F k i) d i) r ∧ (r = true ↔ ∀ j, i ≤ j → j < p → C j) := by
  induction d with
  | zero =>
    intro i hi
    exact ⟨true, Ev.now _, ⟨fun _ j h1 h2 => by omega, fun _ => rfl⟩⟩
  | succ d ih =>
    intro i hi
    obtain ⟨r, r1, r2⟩ := h i (by omega)
    cases r with
    | false =>
      refine ⟨false, Ev.bind r1 (Ev.now _), ⟨fun h => (by cases h), fun h => ?_⟩⟩
      exact r2.2 (h i (Nat.le_refl _) (by omega))
    | true =>
      obtain ⟨q, q1, q2⟩ := ih (i + 1) (by omega)
      refine ⟨q, Ev.bind r1 q1, q2.trans ⟨fun h j h1 h2 => ?_, fun h j h1 h2 => h j (by omega) h2⟩⟩
      by_cases c : j = i
      · subst c; exact r2.1 rfl
      · exact h j (by omega) h2
theorem cov_wmul {a b : Nat} (h : a * b ≤ 1000) : wrap64 ((a : Int) * (b : Int)) = ((a * b : Nat) : Int) := by
  rw [← Int.natCast_mul]
  generalize a * b = c at h ⊢
  exact wr (by omega) (by omega)
theorem cov_wadd {a b : Nat} (h : a + b ≤ 1000) : wrap64 ((a : Int) + (b : Int)) = ((a + b : Nat) : Int) := by
  rw [← Int.natCast_add]
  generalize a + b = c at h ⊢
  exact wr (by omega) (by omega)
theorem cov_bnd {b s i p : Nat} (hb : b ≤ 59 + s) (hi : i < p) (hsp : s * p ≤ 60) : i * s ≤ 60 ∧ b + i * s ≤ 59 + s * p := by
  have h1 : i * s + s ≤ s * p := by rw [Nat.mul_comm s p, ← Nat.succ_mul]; exact Nat.mul_le_mul_right s hi
  generalize i * s = X at h1 ⊢
  generalize s * p = Y at h1 hsp ⊢
  omega
theorem covered_ev (m : Nat) : ∀ (b s : Nat) (l : List (Nat × Nat)), 60 / s ≤ m → s ∣ 60 → b ≤ 59 + s → l.length ≤ 6 → (∀ x ∈ l, Row60 x) → ∃ r, Ev (fun k => RowCov.f k b s (l.map toS)) r ∧ (r = true ↔ Cov b s l) := by
  induction m with
  | zero =>
    intro b s l h hs _ _ _
    have hs0 := Nat.pos_of_dvd_of_pos hs (by omega)
    have := Nat.div_pos (Nat.le_of_dvd (by omega) hs) hs0
    omega
  | succ m ih =>
    intro b s l hm hs hb hlen hl
    have hs0 := Nat.pos_of_dvd_of_pos hs (by omega)
    have hs1 := Nat.le_of_dvd (by omega : 0 < 60) hs
    have st : ∀ r, Ev (fun k => (RowCov.scan k b s (l.map toS) [] 0 0).bind fun y => match y with
      | none => some true
      | some (left, S, best) => if (FloatKind.f64.format.order S 4607182418791010209 == some .lt) = true then some false else (impl_prime.f k best).bind fun p => if 0 ≤ p ∧ p ≤ 1000000 then RowCov.all (fun i => RowCov.f k (wrap64 ((b : Int) + wrap64 ((i : Int) * (s : Int)))) (wrap64 ((s : Int) * p)) left) p.toNat 0 else none) r → Ev (fun k => RowCov.f k b s (l.map toS)) r := fun r h => Ev.step (fun k => by rw [RowCov.f] <;> rfl) h
    rcases scan_ev (b := b) (s := s) (by omega) hs0 hs1 l [] 0 0 hl (by simpa using hlen) (by simp) ⟨okS_zero, by simp, .inl ⟨rfl, rfl⟩⟩ with ⟨h1, x, hx, h2, h3⟩ | ⟨S, best, h1, h2⟩
    · exact ⟨true, st _ (Ev.bind h1 (Ev.now _)), ⟨fun _ => cov_one hx h2 h3, fun _ => rfl⟩⟩
    · rw [List.nil_append] at h1 h2
      have hfl : (l.filter (meetsN b s)).length ≤ 6 := Nat.le_trans (List.length_filter_le _ _) hlen
      have hfr : ∀ x ∈ l.filter (meetsN b s), Row60 x := fun x hx => hl x (List.mem_filter.1 hx).1
      have hcf := cov_filter b s l
      generalize l.filter (meetsN b s) = left at h1 h2 hfl hfr hcf
      have ht := okS_test h2.ok
      by_cases hE : shares s left < 60
      · refine ⟨false, st _ (Ev.bind h1 (Ev.const fun k => ?_)), ⟨fun h => (by cases h), fun h => ?_⟩⟩
        · show (if test_ S = true then _ else _) = _
          rw [ht, if_pos (by simpa using hE)]
        · have := cov_shares hs (fun x hx => (hfr x hx).dvd) (hcf.1 h)
          omega
      · rcases h2.best with ⟨h0, _⟩ | ⟨x, hx, hbest⟩
        · rw [h0] at hE; simp [shares] at hE
        · have hxr := hfr x hx
          have hp0 := parts_pos (s := s) hxr hs0
          have hp1 := (h2.all x hx).2
          have hp60 := Nat.le_of_dvd (by omega : 0 < 60) (parts_dvd (s := s) hxr)
          obtain ⟨p, p1, p2, p3⟩ := prime_ev (n := partsN s x) (by omega) (by omega)
          have hpl : p ≤ 60 := Nat.le_trans (Nat.le_of_dvd hp0 p2) hp60
          have hsp : s * p ∣ 60 := step_dvd hs hxr.dvd p2
          have hsp1 := Nat.le_of_dvd (by omega : 0 < 60) hsp
          have hsp2 : s * 2 ≤ s * p := Nat.mul_le_mul_left s p1
          have hdec : 60 / (s * p) ≤ m := by
            rw [← Nat.div_div_eq_div_mul]
            have : 60 / s / p ≤ 60 / s / 2 := Nat.div_le_div_left p1 (by omega)
            have : 0 < 60 / s := Nat.div_pos hs1 hs0
            omega
          obtain ⟨r, r1, r2⟩ := all_ev (F := fun k i => RowCov.f k (wrap64 ((b : Int) + wrap64 ((i : Int) * (s : Int)))) (wrap64 ((s : Int) * (p : Int))) (left.map toS)) (C := fun i => Cov (b + i * s) (s * p) left) (p := p) (fun i hi => by
            obtain ⟨b1, b2⟩ := cov_bnd hb hi hsp1
            have e1 := cov_wmul (a := i) (b := s) (Nat.le_trans b1 (by decide))
            have e2 := cov_wadd (a := b) (b := i * s) (Nat.le_trans b2 (Nat.le_trans (Nat.add_le_add_left hsp1 59) (by decide)))
            have e3 := cov_wmul (a := s) (b := p) (Nat.le_trans hsp1 (by decide))
            simp only [e1, e2, e3]
            exact ih (b + i * s) (s * p) left hdec hsp b2 hfl hfr) p 0 (by omega)
          refine ⟨r, st _ (Ev.bind h1 ?_), ?_⟩
          · have ho : (FloatKind.f64.format.order S 4607182418791010209 == some .lt) = false := by
              show test_ S = false
              rw [ht]; simpa using hE
            simp only [ho, Bool.false_eq_true, if_false, hbest]
            refine Ev.bind p3 ?_
            simp only [if_pos (show (0 : Int) ≤ (p : Int) ∧ (p : Int) ≤ 1000000 by omega), Int.toNat_natCast]
            exact r1
          · rw [r2, hcf, cov_split b s p hs0 (by omega)]
            exact ⟨fun h i hi => h i (Nat.zero_le _) hi, fun h i _ hi => h i hi⟩

end Go.Proofs.Ytdoghlojgofmaaa.Q
