/- The law FnProofSumIs holds for all that it draws. -/
import Derived.Laws.BitsLemmas
import Derived.Test.YtinjblbfaijhdaaDoorCFnProofSumIs1
import Derived.Test.YtinjblbfaijhdaaDoorCFnProofSumIs9
import Derived.Test.YtinjblbfaijhdaaDoorCFnProofSumIs10
import Derived.Test.YtinjblbfaijhdaaDoorCFnProofSumIs11
import Derived.Test.YtinjblbfaijhdaaDoorCFnProofSumIs13
namespace Go.Proofs.YtinjblbfaijhdaaDoor.Q
open Go.RowKit Go.Proofs.YtinjblbfaijhdaaDoorW.PrintWords Go.Proofs.YtinjblbfaijhdaaDoorW.PrintLast Go.Proofs.YtinjblbfaijhdaaDoorW.PrintMore
set_option linter.unusedVariables false
set_option linter.unusedSimpArgs false
structure Bs (bs : List Int) : Prop where
  len : bs.length ≤ 2000
  byte : ∀ x ∈ bs, 0 ≤ x ∧ x ≤ 255
theorem byte_wf {x : Int} (h : (Lit.int .u8 x).wf = true) : 0 ≤ x ∧ x ≤ 255 := by
  have h1 : IntKind.u8.min = 0 := rfl
  have h2 : IntKind.u8.max = 255 := rfl
  simp [Lit.wf] at h
  omega
theorem open_ev (l0 : List Int) (h : ∀ x ∈ l0, (Lit.int .u8 x).wf = true) : ∃ bs, Bs bs ∧ spec_l6Open.f l0 = some (bs, 0) := by
  unfold spec_l6Open.f
  by_cases c : (l0.length : Int) > 2000
  · refine ⟨l0.take 2000, ⟨List.length_take_le _ _, fun x hx => byte_wf (h x (List.mem_of_mem_take hx))⟩, ?_⟩
    rw [if_pos c, if_pos (by omega)]
  · exact ⟨l0, ⟨by omega, fun x hx => byte_wf (h x hx)⟩, by rw [if_neg c]⟩
theorem rd_byte {bs : List Int} (h : Bs bs) (i : Nat) : ∃ b : Nat, b ≤ 255 ∧ rd bs (i : Int) = b := by
  have hx : 0 ≤ rd bs (i : Int) ∧ rd bs (i : Int) ≤ 255 := by
    unfold rd
    rw [Int.toNat_natCast]
    by_cases c : i < bs.length
    · have : bs.getD i 0 = bs[i] := by simp [List.getD, c]
      rw [this]
      exact h.byte _ (List.getElem_mem c)
    · have : bs.getD i 0 = 0 := by simp [List.getD, List.getElem?_eq_none (show bs.length ≤ i by omega)]
      rw [this]; omega
  obtain ⟨b, hb⟩ := Int.eq_ofNat_of_zero_le hx.1
  exact ⟨b, by omega, hb⟩
theorem xor_nat (a b : Nat) (ha : a < 2 ^ 62) (hb : b < 2 ^ 62) : Go.bits .xor .i64 (a : Int) (b : Int) = ((a ^^^ b : Nat) : Int) := by
  have h64 : IntKind.i64.bits = 64 := rfl
  have ha' : a % 2 ^ 64 = a := Nat.mod_eq_of_lt (by omega)
  have hb' : b % 2 ^ 64 = b := Nat.mod_eq_of_lt (by omega)
  have hx : a ^^^ b < 2 ^ 62 := Nat.xor_lt_two_pow ha hb
  simp only [Go.bits, h64, BitVec.ofInt_natCast, BitVec.toNat_xor, BitVec.toNat_ofNat, ha', hb']
  rw [IntKind.wrap_i64]
  omega
theorem pick_ev {bs : List Int} (h : Bs bs) (p n : Nat) (hp : p ≤ 1000000) (hn : 1 ≤ n) (hn2 : n ≤ 1000000) : ∃ v : Nat, v < n ∧ Ev (fun k => spec_l6Rd_pick.f k bs p n) ((v : Int), ((p + 1 : Nat) : Int)) := by
  have hl := h.len
  have e1 : wrap64 (((p + 1 : Nat) : Int) - 1) = (p : Nat) := by rw [wr (by omega) (by omega)]; omega
  have pos : ∀ v : Nat, Ev (fun k => spec_l6Rd_pick.j0 k n ((bs.length : Int) == 0) bs ((p + 1 : Nat) : Int)) ((v : Int), ((p + 1 : Nat) : Int)) → Ev (fun k => spec_l6Rd_pick.f k bs p n) ((v : Int), ((p + 1 : Nat) : Int)) := by
    intro v hv
    refine Ev.congr (fun k => ?_) hv
    unfold spec_l6Rd_pick.f
    rw [if_neg (by omega), wr1 (by omega)]
  by_cases c0 : bs.length = 0
  · refine ⟨0, by omega, pos 0 (Ev.end fun k => ?_)⟩
    simp only [spec_l6Rd_pick.j0]
    rw [if_pos (by rw [c0]; rfl)]
    rfl
  · have hne : ¬ (((bs.length : Int) == 0) = true) := by simp; intro h; exact c0 (by simp [h])
    by_cases c : p < bs.length
    · obtain ⟨b, hb, eb⟩ := rd_byte h p
      refine ⟨b % n, Nat.mod_lt _ (by omega), pos _ (Ev.end fun k => ?_)⟩
      simp only [spec_l6Rd_pick.j0]
      rw [if_neg hne, e1, if_pos (by omega), if_pos (by omega), if_neg (by omega), eb, wr (by omega) (by omega), tmod_nat]
    · have hm1 := Nat.mod_lt p (show bs.length > 0 by omega)
      have hm2 := Nat.mod_lt (p * 7 + 3) (show bs.length > 0 by omega)
      obtain ⟨b1, hb1, eb1⟩ := rd_byte h (p % bs.length)
      obtain ⟨b2, hb2, eb2⟩ := rd_byte h ((p * 7 + 3) % bs.length)
      have hd := Nat.div_le_self p bs.length
      have hx : b1 * 131 + b2 * 1117 + p * 29 + p / bs.length * 53 ≤ 100000000 := by omega
      refine ⟨((b1 * 131 + b2 * 1117 + p * 29 + p / bs.length * 53) ^^^ ((b1 * 131 + b2 * 1117 + p * 29 + p / bs.length * 53) / 64)) % n, Nat.mod_lt _ (by omega), pos _ (Ev.end fun k => ?_)⟩
      simp only [spec_l6Rd_pick.j0]
      have e7 : wrap64 (wrap64 (((p : Nat) : Int) * 7) + 3) = ((p * 7 + 3 : Nat) : Int) := by rw [wr (x := (p : Int) * 7) (by omega) (by omega), wr (by omega) (by omega)]; omega
      rw [if_neg hne, e1, if_neg (by omega), if_neg (by omega), e7, tmod_nat, tmod_nat, if_pos (by omega), if_pos (by omega), if_pos (by omega), if_pos (by omega), if_neg (by omega), eb1, eb2, tdiv_nat]
      have hX : wrap64 (wrap64 (wrap64 (wrap64 (wrap64 (b1 : Int) * 131) + wrap64 (wrap64 (b2 : Int) * 1117)) + wrap64 ((p : Int) * 29)) + wrap64 (wrap64 ((p / bs.length : Nat) : Int) * 53)) = ((b1 * 131 + b2 * 1117 + p * 29 + p / bs.length * 53 : Nat) : Int) := by
        generalize p / bs.length = q at *
        rw [wr (x := (b1 : Int)) (by omega) (by omega), wr (x := (b2 : Int)) (by omega) (by omega), wr (x := (b1 : Int) * 131) (by omega) (by omega), wr (x := (b2 : Int) * 1117) (by omega) (by omega), wr (x := (p : Int) * 29) (by omega) (by omega), wr (x := (q : Int)) (by omega) (by omega), wr (x := (q : Int) * 53) (by omega) (by omega), wr (x := (b1 : Int) * 131 + (b2 : Int) * 1117) (by omega) (by omega), wr (x := (b1 : Int) * 131 + (b2 : Int) * 1117 + (p : Int) * 29) (by omega) (by omega), wr (by omega) (by omega)]
        omega
      rw [hX]
      generalize b1 * 131 + b2 * 1117 + p * 29 + p / bs.length * 53 = X at hx
      have hq : wrap64 (Int.tdiv (X : Int) 64) = ((X / 64 : Nat) : Int) := by
        rw [show (64 : Int) = ((64 : Nat) : Int) from rfl, tdiv_nat, wr (by omega) (by omega)]
      rw [hq, xor_nat _ _ (by omega) (by omega), tmod_nat]

theorem signs_draw_l0 {bs : List Int} (h : Bs bs) (c : Nat) : ∀ (acc : List Int) (p : Nat), p + c ≤ 1000000 → acc.length + c ≤ 1000000 →
    ∃ s : ByteArray, s.size = acc.length + c ∧ Ev (fun k => spec_l91Signs.l0 k acc c bs p) (s, ((p + c : Nat) : Int)) := by
  induction c with
  | zero =>
    intro acc p hp ha
    refine ⟨strOfNums acc, strOfNums_size acc, Ev.end fun k => ?_⟩
    simp only [spec_l91Signs.l0]
    rw [if_neg (by omega)]; rfl
  | succ c ih =>
    intro acc p hp ha
    obtain ⟨v, hv, e⟩ := pick_ev h p 2 (by omega) (by omega) (by omega)
    obtain ⟨s, hs, es⟩ := ih (acc ++ [(wrap64 (48 + (v : Int))) % 256]) (p + 1) (by omega) (by rw [List.length_append, List.length_singleton]; omega)
    rw [List.length_append, List.length_singleton] at hs
    refine ⟨s, by omega, Ev.step (f := fun k => (spec_l6Rd_pick.f k bs p 2).bind fun x => if acc.length < 140737488355328 then spec_l91Signs.l0 k (acc ++ [(wrap64 (48 + x.1)) % 256]) (c : Nat) bs x.2 else none) (fun k => ?_) (Ev.bind e ?_)⟩
    · simp only [spec_l91Signs.l0]
      rw [if_pos (by omega), wr (x := ((c + 1 : Nat) : Int) - 1) (by omega) (by omega), show ((c + 1 : Nat) : Int) - 1 = (c : Int) from by omega]
    · simp only [if_pos (show acc.length < 140737488355328 from by omega)]
      rw [show p + (c + 1) = p + 1 + c from by omega]
      exact es
theorem signs_draw {bs : List Int} (h : Bs bs) (p low many : Nat) (hp : p ≤ 100000) (hl : low ≤ 1000) (hm : 1 ≤ many) (hm2 : many ≤ 1000) :
    ∃ (s : ByteArray) (q : Nat), s.size ≤ low + many ∧ q ≤ p + 1 + low + many ∧ Ev (fun k => spec_l91Signs.f k bs p low many) (s, (q : Int)) := by
  obtain ⟨v, hv, e⟩ := pick_ev h p many (by omega) hm (by omega)
  obtain ⟨s, hs, es⟩ := signs_draw_l0 h (low + v) [] (p + 1) (by omega) (by simp; omega)
  simp only [List.length_nil] at hs
  refine ⟨s, p + 1 + (low + v), by omega, by omega, ?_⟩
  unfold spec_l91Signs.f
  refine Ev.bind e ?_
  simp only [show wrap64 ((low : Int) + (v : Int)) = ((low + v : Nat) : Int) from by rw [wr (by omega) (by omega)]; omega]
  exact es

theorem set_draw {bs : List Int} (h : Bs bs) (p : Nat) (hp : p ≤ 50000) : ∃ (s : ByteArray) (q : Nat), s.size ≤ 100 ∧ q ≤ p + 100 ∧ Ev (fun k => spec_l91Set.f k bs p) (s, (q : Int)) := by
  obtain ⟨s1, p1, hs1, hp1, e1⟩ := signs_draw h p 0 6 (by omega) (by omega) (by omega) (by omega)
  obtain ⟨s2, p2, hs2, hp2, e2⟩ := signs_draw h p1 1 5 (by omega) (by omega) (by omega) (by omega)
  obtain ⟨v, hv, e3⟩ := pick_ev h p2 24 (by omega) (by omega) (by omega)
  have z1 : (⟨#[40]⟩ : ByteArray).size = 1 := rfl
  have z2 : (⟨#[41]⟩ : ByteArray).size = 1 := rfl
  have z3 : (⟨#[40, 48, 41]⟩ : ByteArray).size = 3 := rfl
  have key : ∃ (s : ByteArray) (q : Nat), s.size ≤ 100 ∧ q ≤ p + 100 ∧ Ev (fun k => if (v : Int) = 0 then ((some (([(⟨#[]⟩ : ByteArray), (⟨#[48]⟩ : ByteArray), (⟨#[40, 41]⟩ : ByteArray), (⟨#[49, 40]⟩ : ByteArray), (⟨#[40, 48, 41, 41]⟩ : ByteArray), (⟨#[97, 40, 49, 41]⟩ : ByteArray), (⟨#[40, 49, 41, 48]⟩ : ByteArray), (⟨#[48, 49, 40, 48, 50, 41]⟩ : ByteArray), (⟨#[48, 40, 40, 49, 41]⟩ : ByteArray)] : List ByteArray) : List ByteArray)).bind fun y => ((spec_l6Rd_pick.f k bs ((p2 + 1 : Nat) : Int) 9).bind fun x => (if 0 ≤ x.1 then (if x.1 < (y.length : Int) then (some (rdOf ByteArray.empty y x.1, x.2)) else (none)) else (none)))) else (if (v : Int) = 1 then ((spec_l91Signs.f k bs ((p2 + 1 : Nat) : Int) 0 6).bind fun x => (if x.1.size + 3 ≤ 9223372036854775807 then (some (x.1 ++ (⟨#[40, 48, 41]⟩ : ByteArray), x.2)) else (none))) else (if (v : Int) = 2 then (if 1 ≤ ((((s1 ++ (⟨#[40]⟩ : ByteArray)) ++ s2) ++ (⟨#[41]⟩ : ByteArray)).size : Int) then (if 1 + ((((s1 ++ (⟨#[40]⟩ : ByteArray)) ++ s2) ++ (⟨#[41]⟩ : ByteArray)).extract 1 (((s1 ++ (⟨#[40]⟩ : ByteArray)) ++ s2) ++ (⟨#[41]⟩ : ByteArray)).size).size ≤ 9223372036854775807 then (some ((⟨#[40]⟩ : ByteArray) ++ ((((s1 ++ (⟨#[40]⟩ : ByteArray)) ++ s2) ++ (⟨#[41]⟩ : ByteArray)).extract 1 (((s1 ++ (⟨#[40]⟩ : ByteArray)) ++ s2) ++ (⟨#[41]⟩ : ByteArray)).size), ((p2 + 1 : Nat) : Int))) else (none)) else (none)) else (some (((s1 ++ (⟨#[40]⟩ : ByteArray)) ++ s2) ++ (⟨#[41]⟩ : ByteArray), ((p2 + 1 : Nat) : Int)))))) (s, (q : Int)) := by
    by_cases c0 : v = 0
    · obtain ⟨u, hu, e4⟩ := pick_ev h (p2 + 1) 9 (by omega) (by omega) (by omega)
      refine ⟨rdOf ByteArray.empty [(⟨#[]⟩ : ByteArray), (⟨#[48]⟩ : ByteArray), (⟨#[40, 41]⟩ : ByteArray), (⟨#[49, 40]⟩ : ByteArray), (⟨#[40, 48, 41, 41]⟩ : ByteArray), (⟨#[97, 40, 49, 41]⟩ : ByteArray), (⟨#[40, 49, 41, 48]⟩ : ByteArray), (⟨#[48, 49, 40, 48, 50, 41]⟩ : ByteArray), (⟨#[48, 40, 40, 49, 41]⟩ : ByteArray)] (u : Int), p2 + 1 + 1, ?_, by omega, ?_⟩
      · have : u = 0 ∨ u = 1 ∨ u = 2 ∨ u = 3 ∨ u = 4 ∨ u = 5 ∨ u = 6 ∨ u = 7 ∨ u = 8 := by omega
        rcases this with rfl | rfl | rfl | rfl | rfl | rfl | rfl | rfl | rfl <;> decide
      · simp only [if_pos (show (v : Int) = 0 from by omega), Option.bind_some]
        refine Ev.bind e4 (Ev.const fun k => ?_)
        rw [if_pos (by omega), if_pos (by simp; omega)]
    · simp only [if_neg (show ¬ (v : Int) = 0 from by omega)]
      by_cases c1 : v = 1
      · obtain ⟨s4, p4, hs4, hp4, e4⟩ := signs_draw h (p2 + 1) 0 6 (by omega) (by omega) (by omega) (by omega)
        refine ⟨s4 ++ ⟨#[40, 48, 41]⟩, p4, by rw [ByteArray.size_append, z3]; omega, by omega, ?_⟩
        simp only [if_pos (show (v : Int) = 1 from by omega)]
        refine Ev.bind e4 (Ev.const fun k => ?_)
        rw [if_pos (by show s4.size + 3 ≤ 9223372036854775807; omega)]
      · simp only [if_neg (show ¬ (v : Int) = 1 from by omega)]
        have hsz : (((s1 ++ (⟨#[40]⟩ : ByteArray)) ++ s2) ++ (⟨#[41]⟩ : ByteArray)).size = s1.size + 1 + s2.size + 1 := by
          rw [ByteArray.size_append, ByteArray.size_append, ByteArray.size_append, z1, z2]
        by_cases c2 : v = 2
        · simp only [if_pos (show (v : Int) = 2 from by omega)]
          have hx : ((((s1 ++ (⟨#[40]⟩ : ByteArray)) ++ s2) ++ (⟨#[41]⟩ : ByteArray)).extract 1 (((s1 ++ (⟨#[40]⟩ : ByteArray)) ++ s2) ++ (⟨#[41]⟩ : ByteArray)).size).size = s1.size + 1 + s2.size := by
            rw [ext_size _ _ _ (Nat.le_refl _), hsz]; omega
          refine ⟨(⟨#[40]⟩ : ByteArray) ++ ((((s1 ++ (⟨#[40]⟩ : ByteArray)) ++ s2) ++ (⟨#[41]⟩ : ByteArray)).extract 1 (((s1 ++ (⟨#[40]⟩ : ByteArray)) ++ s2) ++ (⟨#[41]⟩ : ByteArray)).size), p2 + 1, ?_, by omega, Ev.const fun k => ?_⟩
          · rw [ByteArray.size_append, z1, hx]; omega
          · rw [if_pos (by omega), if_pos (by omega)]
        · simp only [if_neg (show ¬ (v : Int) = 2 from by omega)]
          exact ⟨_, p2 + 1, by rw [hsz]; omega, by omega, Ev.now _⟩
  obtain ⟨s, q, g1, g2, g3⟩ := key
  refine ⟨s, q, g1, g2, ?_⟩
  unfold spec_l91Set.f
  refine Ev.bind e1 ?_
  simp only [if_pos (show s1.size + 1 ≤ 9223372036854775807 from by omega)]
  refine Ev.bind e2 ?_
  have w1 : s1.size + 1 + s2.size ≤ 9223372036854775807 := by omega
  have w2 : s1.size + 1 + s2.size + 1 ≤ 9223372036854775807 := by omega
  simp only [if_pos w1, if_pos w2]
  exact Ev.bind e3 g3

end Go.Proofs.YtinjblbfaijhdaaDoor.Q

namespace Go.Proofs.YtinjblbfaijhdaaDoor.Q
open Go.RowKit Go.Proofs.YtinjblbfaijhdaaDoorW.PrintWords Go.Proofs.YtinjblbfaijhdaaDoorW.PrintLast Go.Proofs.YtinjblbfaijhdaaDoorW.PrintMore
attribute [local go_sem] max2_int min2_int max_two min_two max_three min_three max_four min_four   -- for this text's walks alone
set_option linter.unusedVariables false
set_option linter.unusedSimpArgs false

end Go.Proofs.YtinjblbfaijhdaaDoor.Q

namespace Go.Proofs.YtinjblbfaijhdaaDoor.Q
open Go.RowKit Go.Proofs.YtinjblbfaijhdaaDoorW.PrintWords Go.Proofs.YtinjblbfaijhdaaDoorW.PrintLast Go.Proofs.YtinjblbfaijhdaaDoorW.PrintMore
attribute [local go_sem] max2_int min2_int max_two min_two max_three min_three max_four min_four   -- for this text's walks alone
set_option linter.unusedVariables false
set_option linter.unusedSimpArgs false

end Go.Proofs.YtinjblbfaijhdaaDoor.Q

namespace Go.Proofs.YtinjblbfaijhdaaDoor.Q
open Go.RowKit Go.Proofs.YtinjblbfaijhdaaDoorW.PrintWords Go.Proofs.YtinjblbfaijhdaaDoorW.PrintLast Go.Proofs.YtinjblbfaijhdaaDoorW.PrintMore
attribute [local go_sem] max2_int min2_int max_two min_two max_three min_three max_four min_four   -- for this text's walks alone
set_option linter.unusedVariables false
set_option linter.unusedSimpArgs false

end Go.Proofs.YtinjblbfaijhdaaDoor.Q

namespace Go.Proofs.YtinjblbfaijhdaaDoor.Q
open Go.RowKit Go.Proofs.YtinjblbfaijhdaaDoorW.PrintWords Go.Proofs.YtinjblbfaijhdaaDoorW.PrintLast Go.Proofs.YtinjblbfaijhdaaDoorW.PrintMore
attribute [local go_sem] max2_int min2_int max_two min_two max_three min_three max_four min_four   -- for this text's walks alone
set_option linter.unusedVariables false
set_option linter.unusedSimpArgs false

end Go.Proofs.YtinjblbfaijhdaaDoor.Q

namespace Go.Proofs.YtinjblbfaijhdaaDoor.Q
open Go.RowKit Go.Proofs.YtinjblbfaijhdaaDoorW.PrintWords Go.Proofs.YtinjblbfaijhdaaDoorW.PrintLast Go.Proofs.YtinjblbfaijhdaaDoorW.PrintMore
attribute [local go_sem] max2_int min2_int max_two min_two max_three min_three max_four min_four   -- for this text's walks alone
set_option linter.unusedVariables false
set_option linter.unusedSimpArgs false

end Go.Proofs.YtinjblbfaijhdaaDoor.Q

namespace Go.Proofs.YtinjblbfaijhdaaDoor.Q
open Go.RowKit Go.Proofs.YtinjblbfaijhdaaDoorW.PrintWords Go.Proofs.YtinjblbfaijhdaaDoorW.PrintLast Go.Proofs.YtinjblbfaijhdaaDoorW.PrintMore
attribute [local go_sem] max2_int min2_int max_two min_two max_three min_three max_four min_four   -- for this text's walks alone
set_option linter.unusedVariables false
set_option linter.unusedSimpArgs false

end Go.Proofs.YtinjblbfaijhdaaDoor.Q

namespace Go.Proofs.YtinjblbfaijhdaaDoor.Q
open Go.RowKit Go.Proofs.YtinjblbfaijhdaaDoorW.PrintWords Go.Proofs.YtinjblbfaijhdaaDoorW.PrintLast Go.Proofs.YtinjblbfaijhdaaDoorW.PrintMore
attribute [local go_sem] max2_int min2_int max_two min_two max_three min_three max_four min_four   -- for this text's walks alone
set_option linter.unusedVariables false
set_option linter.unusedSimpArgs false

end Go.Proofs.YtinjblbfaijhdaaDoor.Q

namespace Go.Proofs.YtinjblbfaijhdaaDoor.Q
open Go.RowKit Go.Proofs.YtinjblbfaijhdaaDoorW.PrintWords Go.Proofs.YtinjblbfaijhdaaDoorW.PrintLast Go.Proofs.YtinjblbfaijhdaaDoorW.PrintMore
attribute [local go_sem] max2_int min2_int max_two min_two max_three min_three max_four min_four   -- for this text's walks alone
set_option linter.unusedVariables false
set_option linter.unusedSimpArgs false

end Go.Proofs.YtinjblbfaijhdaaDoor.Q

namespace Go.Proofs.YtinjblbfaijhdaaDoor.Q
open Go.RowKit Go.Proofs.YtinjblbfaijhdaaDoorW.PrintWords Go.Proofs.YtinjblbfaijhdaaDoorW.PrintLast Go.Proofs.YtinjblbfaijhdaaDoorW.PrintMore
attribute [local go_sem] max2_int min2_int max_two min_two max_three min_three max_four min_four   -- for this text's walks alone
set_option linter.unusedVariables false
set_option linter.unusedSimpArgs false

end Go.Proofs.YtinjblbfaijhdaaDoor.Q

namespace Go.Proofs.YtinjblbfaijhdaaDoor.Q
open Go.RowKit Go.Proofs.YtinjblbfaijhdaaDoorW.PrintWords Go.Proofs.YtinjblbfaijhdaaDoorW.PrintLast Go.Proofs.YtinjblbfaijhdaaDoorW.PrintMore
open Go.Proofs.YtinjblbfaijhdaaDoor.Pl
set_option linter.unusedVariables false
set_option linter.unusedSimpArgs false
/-- A list of whole numbers that tells f up to its length. -/
structure TellsI (l : List Int) (f : Nat → Int) (m : Nat) : Prop where
  len : l.length = m
  get : ∀ j, j < m → l.getD j 0 = f j

theorem starHas_ev {s : ByteArray} {t r : List Bool} (h : IsSmall s t r) (n : Nat) (hn : n ≤ 2000) : Ev (fun k => impl_StarHas.f k s n) (star (hasB t r) n) := by
  obtain ⟨l, k1, k2⟩ := star_ev h.good (n + 1) (by omega)
  have := k2.len
  have hin : impl_in.f n 0 2000 = some true := by rw [in_eq', decide_eq_true (by omega)]
  have e : wrap64 ((n : Int) + 1) = ((n + 1 : Nat) : Int) := wr1 (by omega)
  unfold impl_StarHas.f
  refine Ev.bind h.impl ?_
  simp only [if_true, hin, Option.bind_some, e]
  refine Ev.bind k1 (Ev.const fun k => ?_)
  rw [if_pos (by omega), if_pos (by omega), rdOf_nat, k2.get n (by omega)]
end Go.Proofs.YtinjblbfaijhdaaDoor.Q
