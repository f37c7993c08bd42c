/- The program's WaysFirst returns what the reference's returns, for all arguments; no condition beyond the statement's own. -/
import Derived.Test.YtcbgflejdgcmeaaCFnExactWaysFirst1
import Derived.Test.YtcbgflejdgcmeaaCFnExactWaysFirst8
import Derived.Test.YtcbgflejdgcmeaaCFnExactWaysFirst10
namespace Go.Proofs.Ytcbgflejdgcmeaa.Q
open Go.RowKit Go.Proofs.YtcbgflejdgcmeaaW.PrintWords Go.Proofs.YtcbgflejdgcmeaaW.PrintLast Go.Proofs.YtcbgflejdgcmeaaW.PrintMore
open Go.Proofs.Ytcbgflejdgcmeaa.Pl
set_option linter.unusedVariables false
set_option linter.unusedSimpArgs false
/-- l is the first way to n. -/
def IsWay (f : Nat → Bool) : Nat → List Int → Prop
  | n, [] => n = 0
  | n, y :: l => ∃ z : Nat, y = (z : Int) ∧ 1 ≤ n ∧ Fst f n z ∧ IsWay f (n - z) l
theorem fst_le {f : Nat → Bool} {n z : Nat} (h : Fst f n z) : 1 ≤ z ∧ z ≤ n ∧ f z = true ∧ star f (n - z) = true := by
  have := h.ok
  simp only [stepOk, Bool.and_eq_true, decide_eq_true_eq] at this
  exact ⟨this.1.1.1, this.1.2, this.1.1.2, this.2⟩
theorem fst_less {f : Nat → Bool} {n z y : Nat} (h : Fst f n z) (hy : y < z) (h1 : 1 ≤ y) (h2 : f y = true) : W f (n - y) = 0 := by
  have := h.least y hy
  have hz := fst_le h
  have hn : y ≤ n := by omega
  simp only [stepOk, h1, h2, hn, decide_true, Bool.true_and, star, decide_eq_false_iff_not] at this
  omega
theorem way_exists (f : Nat → Bool) (n : Nat) : star f n = true → ∃ l, IsWay f n l := by
  induction n using Nat.strongRecOn with
  | _ n ih =>
    intro h
    rcases Nat.eq_zero_or_pos n with h0 | h0
    · exact ⟨[], h0⟩
    · obtain ⟨z, hz⟩ := fst_exists f h0 h
      have := fst_le hz
      obtain ⟨l, hl⟩ := ih (n - z) (by omega) this.2.2.2
      exact ⟨(z : Int) :: l, z, rfl, h0, hz, hl⟩
theorem way_len (f : Nat → Bool) : ∀ (l : List Int) (n : Nat), IsWay f n l → l.length ≤ n := by
  intro l
  induction l with
  | nil => intro n _; simp
  | cons y l ih =>
    intro n h
    obtain ⟨z, _, h0, hz, h⟩ := h
    have := fst_le hz
    have := ih _ h
    simp only [List.length_cons]; omega
/-- What WaysFirst answers. -/
def FirstR (f : Nat → Bool) (n : Nat) (x : List Int × Bool) : Prop := (∃ l, IsWay f n l ∧ x = (l, true)) ∨ (star f n = false ∧ x = ([], false))
theorem firstR_exists (f : Nat → Bool) (n : Nat) : ∃ x, FirstR f n x := by
  cases h : star f n with
  | true =>
    obtain ⟨m, hm⟩ := way_exists f n h
    exact ⟨_, .inl ⟨m, hm, rfl⟩⟩
  | false => exact ⟨_, .inr ⟨h, rfl⟩⟩
theorem firstR_len {f : Nat → Bool} {n : Nat} {x : List Int × Bool} (h : FirstR f n x) : x.1.length ≤ n := by
  rcases h with ⟨l, h, rfl⟩ | ⟨_, rfl⟩
  · exact way_len f l n h
  · simp
theorem way_star (f : Nat → Bool) : ∀ (l : List Int) (n : Nat), IsWay f n l → star f n = true := by
  intro l n h
  cases l with
  | nil => obtain rfl : n = 0 := h; rfl
  | cons y l =>
    obtain ⟨z, _, h0, hz, h⟩ := h
    have := fst_le hz
    exact (star_iff f h0).2 ⟨z, this.1, this.2.1, this.2.2.1, this.2.2.2⟩
theorem star_W {f : Nat → Bool} {n : Nat} (h : star f n = true) : 0 < W f n := by simpa [star] using h
theorem nostar_W {f : Nat → Bool} {n : Nat} (h : star f n = false) : W f n = 0 := by
  simp only [star, decide_eq_false_iff_not] at h; omega

theorem first_l1 (f : Nat → Bool) (N n : Nat) (hN : N ≤ 60) (hn : n ≤ N) (x : List Int) (hx : TellsI x (fun j => ((W f j : Nat) : Int)) (N + 1)) (acc : List Int) (ha : acc.length ≤ 1000) (z : Nat) (hz : Fst f n z) (res : List Int × Bool)
    (hend : Ev (fun k => impl_WaysFirst.l0 k ((n - z : Nat) : Int) (stp f N) x (acc ++ [(z : Int)])) res) (d : Nat) :
    ∀ q, q + d + 1 = z → Ev (fun k => impl_WaysFirst.l1 k n (stp f N) x acc (stp f N) (((stp f N).length : Nat) : Int) (((stp f q).length : Nat) : Int)) res := by
  have hxl := hx.len
  have hsl := stp_len_le f N
  have hzz := fst_le hz
  induction d with
  | zero =>
    intro q hq
    have c : f (q + 1) = true := by rw [show q + 1 = z from by omega]; exact hzz.2.2.1
    obtain ⟨g1, g2⟩ := stp_get (n := N) c (by omega)
    have hp := star_W hzz.2.2.2
    have e1 : x.getD (n - z) 0 = ((W f (n - z) : Nat) : Int) := hx.get _ (by omega)
    rw [show q + 1 = z from by omega] at g2
    refine Ev.step (fun k => ?_) hend
    simp only [impl_WaysFirst.l1]
    rw [if_pos (by omega), if_pos (by omega), if_pos (by omega), rd_nat, g2, if_pos (by omega), wrs' (by omega) (by omega), if_pos (by omega), if_pos (by omega), rd_nat, e1, if_pos (by omega), if_pos (by omega)]
  | succ d ih =>
    intro q hq
    by_cases c : f (q + 1) = true
    · obtain ⟨g1, g2⟩ := stp_get (n := N) c (by omega)
      have hlen := stp_len_yes c
      have hw := fst_less hz (y := q + 1) (by omega) (by omega) c
      have e1 : x.getD (n - (q + 1)) 0 = ((W f (n - (q + 1)) : Nat) : Int) := hx.get _ (by omega)
      have k1 := ih (q + 1) (by omega)
      rw [hlen] at k1
      refine Ev.step (fun k => ?_) k1
      simp only [impl_WaysFirst.l1]
      rw [if_pos (by omega), if_pos (by omega), if_pos (by omega), rd_nat, g2, if_pos (by omega), wrs' (by omega) (by omega), if_pos (by omega), if_pos (by omega), rd_nat, e1, hw, if_neg (by omega), wr1 (by omega)]
    · rw [← stp_len_no c]
      exact ih (q + 1) (by omega)
theorem first_l0 (f : Nat → Bool) (N : Nat) (hN : N ≤ 60) (x : List Int) (hx : TellsI x (fun j => ((W f j : Nat) : Int)) (N + 1)) : ∀ (l : List Int) (n : Nat) (acc : List Int), n ≤ N → acc.length + n ≤ 1000 → IsWay f n l →
    Ev (fun k => impl_WaysFirst.l0 k n (stp f N) x acc) (acc ++ l, true) := by
  intro l
  induction l with
  | nil =>
    intro n acc hn ha h
    obtain rfl : n = 0 := h
    refine Ev.end fun k => ?_
    simp only [impl_WaysFirst.l0]
    rw [if_neg (by omega), List.append_nil]
  | cons y l ih =>
    intro n acc hn ha h
    obtain ⟨z, rfl, h0, hz, h⟩ := h
    have hzz := fst_le hz
    have k1 := ih (n - z) (acc ++ [(z : Int)]) (by omega) (by simp; omega) h
    rw [List.append_assoc] at k1
    refine Ev.step (fun k => ?_) (first_l1 f N n hN hn x hx acc (by omega) z hz _ k1 (z - 1) 0 (by omega))
    simp only [impl_WaysFirst.l0]
    rw [if_pos (by omega)]
    rfl
theorem waysFirst_impl {s : ByteArray} {t r : List Bool} (h : IsSmall s t r) (n : Nat) (hn : n ≤ 40) (res : List Int × Bool) (hres : FirstR (hasB t r) n res) : Ev (fun k => impl_WaysFirst.f k s n) res := by
  obtain ⟨x, k1, k2⟩ := counts_ev (hasB t r) n (by omega)
  have hxl := k2.len
  have e1 : x.getD n 0 = ((W (hasB t r) n : Nat) : Int) := k2.get _ (by omega)
  unfold impl_WaysFirst.f
  refine Ev.bind (steps_yes h n 40 (by omega) (by omega)) (Ev.eq (funext fun k => if_pos rfl) (Ev.bind k1 ?_))
  rcases hres with ⟨l, hl, rfl⟩ | ⟨hs, rfl⟩
  · have hp := star_W (way_star _ _ _ hl)
    refine Ev.eq (funext fun k => ?_) (first_l0 (hasB t r) n (by omega) x k2 l n [] (by omega) (by simp; omega) hl)
    rw [if_pos (by omega), if_pos (by omega), rd_nat, e1, if_neg (by omega)]
  · have hp := nostar_W hs
    refine Ev.const fun k => ?_
    rw [if_pos (by omega), if_pos (by omega), rd_nat, e1, if_pos (by omega)]
theorem sfirst_l1 {t r : List Bool} (h : Good t r) (N n : Nat) (hN : N ≤ 60) (hn : n ≤ N) (x : List Int) (hx : TellsI x (fun j => ((W (hasB t r) j : Nat) : Int)) (N + 1)) (acc : List Int) (ha : acc.length ≤ 1000) (z : Nat) (hz : Fst (hasB t r) n z) (res : List Int × Bool)
    (hend : Ev (fun k => spec_WaysFirst.l0 k ((n - z : Nat) : Int) (acc ++ [(z : Int)]) x t r) res) (d : Nat) :
    ∀ q, q + d = z → 1 ≤ q → Ev (fun k => spec_WaysFirst.l1 k n acc x (q : Nat) t r) res := by
  have hxl := hx.len
  have hzz := fst_le hz
  induction d with
  | zero =>
    intro q hq h1
    obtain rfl : q = z := by omega
    have hp := star_W hzz.2.2.2
    have e1 : x.getD (n - q) 0 = ((W (hasB t r) (n - q) : Nat) : Int) := hx.get _ (by omega)
    refine Ev.step (fun k => ?_) hend
    simp only [spec_WaysFirst.l1]
    rw [l1_has h q (by omega)]
    simp only [Option.bind_some]
    rw [if_pos hzz.2.2.1, wrs' (by omega) (by omega), if_pos (by omega), if_pos (by omega), rd_nat, e1, if_neg (by omega), if_pos (by omega)]
  | succ d ih =>
    intro q hq h1
    have k1 := ih (q + 1) (by omega) (by omega)
    refine Ev.step (fun k => ?_) k1
    simp only [spec_WaysFirst.l1]
    rw [l1_has h q (by omega)]
    simp only [Option.bind_some]
    by_cases c : hasB t r q = true
    · have hw := fst_less hz (y := q) (by omega) h1 c
      have e1 : x.getD (n - q) 0 = ((W (hasB t r) (n - q) : Nat) : Int) := hx.get _ (by omega)
      rw [if_pos c, wrs' (by omega) (by omega), if_pos (by omega), if_pos (by omega), rd_nat, e1, hw, if_pos (by omega), wr1 (by omega)]
    · rw [if_neg c, wr1 (by omega)]
theorem sfirst_l0 {t r : List Bool} (hg : Good t r) (N : Nat) (hN : N ≤ 60) (x : List Int) (hx : TellsI x (fun j => ((W (hasB t r) j : Nat) : Int)) (N + 1)) : ∀ (l : List Int) (n : Nat) (acc : List Int), n ≤ N → acc.length + n ≤ 1000 → IsWay (hasB t r) n l →
    Ev (fun k => spec_WaysFirst.l0 k n acc x t r) (acc ++ l, true) := by
  intro l
  induction l with
  | nil =>
    intro n acc hn ha h
    obtain rfl : n = 0 := h
    refine Ev.end fun k => ?_
    simp only [spec_WaysFirst.l0]
    rw [if_neg (by omega), List.append_nil]
  | cons y l ih =>
    intro n acc hn ha h
    obtain ⟨z, rfl, h0, hz, h⟩ := h
    have hzz := fst_le hz
    have k1 := ih (n - z) (acc ++ [(z : Int)]) (by omega) (by simp; omega) h
    rw [List.append_assoc] at k1
    refine Ev.step (fun k => ?_) (sfirst_l1 hg N n hN hn x hx acc (by omega) z hz _ k1 (z - 1) 1 (by omega) (by omega))
    simp only [spec_WaysFirst.l0]
    rw [if_pos (by omega)]
    rfl
theorem waysFirst_spec {s : ByteArray} {t r : List Bool} (h : IsSmall s t r) (n : Nat) (hn : n ≤ 40) (res : List Int × Bool) (hres : FirstR (hasB t r) n res) : Ev (fun k => spec_WaysFirst.f k s n) res := by
  obtain ⟨x, k1, k2⟩ := ways_ev h.good n (by omega)
  have hxl := k2.len
  have e1 : x.getD n 0 = ((W (hasB t r) n : Nat) : Int) := k2.get _ (by omega)
  unfold spec_WaysFirst.f
  refine Ev.eq (funext fun k => Option.bind_some ..) (Ev.bind (given_yes h n 40 (by omega)) (Ev.eq (funext fun k => if_pos rfl) (Ev.bind k1 ?_)))
  rcases hres with ⟨l, hl, rfl⟩ | ⟨hs, rfl⟩
  · have hp := star_W (way_star _ _ _ hl)
    have eb : (((W (hasB t r) n : Nat) : Int) == 0) = false := by rw [beq_eq_false_iff_ne]; omega
    have k3 : Ev (fun k => (spec_l9Ways.f k t r n).bind fun x => spec_WaysFirst.l0 k n [] x t r) (l, true) := Ev.bind k1 (sfirst_l0 h.good n (by omega) x k2 l n [] (by omega) (by simp; omega) hl)
    refine Ev.step (f := fun k => (spec_l9Ways.f k t r n).bind fun x => spec_WaysFirst.l0 k n [] x t r) (g := fun k => spec_WaysFirst.j0 k n [] false t r) (fun k => by simp only [spec_WaysFirst.j0, Bool.false_eq_true, if_false]) k3 |> Ev.eq (funext fun k => ?_)
    rw [if_pos (by omega), if_pos (by omega), rd_nat, e1, eb]
  · have hp := nostar_W hs
    have eb : (((W (hasB t r) n : Nat) : Int) == 0) = true := by rw [beq_iff_eq]; omega
    refine Ev.eq (funext fun k => ?_) (Ev.end (g := fun k => spec_WaysFirst.j0 k n [] true t r) (fun k => by simp only [spec_WaysFirst.j0, if_true]))
    rw [if_pos (by omega), if_pos (by omega), rd_nat, e1, eb]
theorem waysFirst_no {s : ByteArray} {n : Int} (hs : NoSmall s ∨ ∃ t r, IsSmall s t r) (h : NoSmall s ∨ ¬ (0 ≤ n ∧ n ≤ 40)) : Ev (fun k => impl_WaysFirst.f k s n) ([], false) ∧ Ev (fun k => spec_WaysFirst.f k s n) ([], false) := by
  constructor
  · unfold impl_WaysFirst.f
    refine Ev.bind (steps_no hs h) ?_
    simp only [Bool.false_eq_true, if_false]
    exact Ev.now _
  · obtain ⟨a, b, g⟩ := given_no hs h
    unfold spec_WaysFirst.f
    refine Ev.eq (funext fun k => Option.bind_some ..) (Ev.bind g ?_)
    simp only [Bool.false_eq_true, if_false]
    exact Ev.end fun k => by simp only [spec_WaysFirst.j0, if_true]

theorem eqI_l0 (l : List Int) (hl : l.length ≤ 1000000) (d : Nat) : ∀ i, i + d = l.length → Ev (fun k => laws_eqIntS.l0 k l l (i : Nat)) true := by
  induction d with
  | zero =>
    intro i hi
    refine Ev.end fun k => ?_
    simp only [laws_eqIntS.l0]
    rw [if_neg (by omega)]
  | succ d ih =>
    intro i hi
    refine Ev.step (fun k => ?_) (ih (i + 1) (by omega))
    simp only [laws_eqIntS.l0]
    rw [if_pos (by omega), if_pos (by omega), if_pos (by omega), if_pos trivial, wr1 (by omega)]
theorem eqI_ev (l : List Int) (hl : l.length ≤ 1000000) : Ev (fun k => laws_eqIntS.f k l l) true := by
  unfold laws_eqIntS.f
  simp only [if_true]
  exact eqI_l0 l hl l.length 0 (by omega)
theorem mark_l0 (m : Nat) (hm : m ≤ 1000000) (d : Nat) : ∀ (i : Nat) (l : List Int), i + d = m → l.length = m → (∀ j, j < i → l.getD j 0 = ((j + 1 : Nat) : Int)) → ∃ l', Ev (fun k => laws_markIntS.l0 k l ((i + 1 : Nat) : Int) (i : Nat)) (((m + 1 : Nat) : Int), l') ∧ TellsI l' (fun j => ((j + 1 : Nat) : Int)) m := by
  induction d with
  | zero =>
    intro i l hi hl ha
    obtain rfl : i = m := by omega
    refine ⟨l, Ev.end fun k => ?_, hl, ha⟩
    simp only [laws_markIntS.l0]
    rw [if_neg (by omega)]
  | succ d ih =>
    intro i l hi hl ha
    obtain ⟨l', k1, k2⟩ := ih (i + 1) (l.set i ((i + 1 : Nat) : Int)) (by omega) (by rw [List.length_set, hl]) (fun j hj => by
      by_cases c : j = i
      · subst c; rw [getI_set_self _ _ _ (by omega)]
      · rw [getI_set_ne _ _ (fun h => c h.symm), ha j (by omega)])
    refine ⟨l', Ev.step (fun k => ?_) k1, k2⟩
    simp only [laws_markIntS.l0]
    rw [if_pos (by omega), if_pos (by omega), wr1 (n := i + 1) (by omega), wr1 (by omega), Int.toNat_natCast]
theorem mark_ev (l : List Int) (hl : l.length ≤ 1000000) : ∃ l', Ev (fun k => laws_markIntS.f k l 1) (((l.length + 1 : Nat) : Int), l') ∧ TellsI l' (fun j => ((j + 1 : Nat) : Int)) l.length :=
  mark_l0 l.length hl l.length 0 l (by omega) rfl (fun j hj => by omega)
theorem held_l0 (m : Nat) (hm : m ≤ 1000000) (l : List Int) (hl : TellsI l (fun j => ((j + 1 : Nat) : Int)) m) (d : Nat) : ∀ i, i + d = m → Ev (fun k => laws_heldIntS.l0 k l ((i + 1 : Nat) : Int) (i : Nat)) ((m + 1 : Nat) : Int) := by
  have hll := hl.len
  induction d with
  | zero =>
    intro i hi
    obtain rfl : i = m := by omega
    refine Ev.end fun k => ?_
    simp only [laws_heldIntS.l0]
    rw [if_neg (by omega)]
  | succ d ih =>
    intro i hi
    refine Ev.step (fun k => ?_) (ih (i + 1) (by omega))
    simp only [laws_heldIntS.l0]
    rw [if_pos (by omega), if_pos (by omega), rd_nat, hl.get i (by omega), if_pos rfl, wr1 (n := i + 1) (by omega), wr1 (by omega)]
theorem held_ev (m : Nat) (hm : m ≤ 1000000) (l : List Int) (hl : TellsI l (fun j => ((j + 1 : Nat) : Int)) m) : Ev (fun k => laws_heldIntS.f k l 1) ((m + 1 : Nat) : Int) := held_l0 m hm l hl m 0 (by omega)

end Go.Proofs.Ytcbgflejdgcmeaa.Q

namespace Go.Proofs.Ytcbgflejdgcmeaa.Pure
open Go.RowKit Go.Proofs.Ytcbgflejdgcmeaa.Q Go.Proofs.YtcbgflejdgcmeaaW.PrintWords Go.Proofs.YtcbgflejdgcmeaaW.PrintLast
set_option linter.unusedSimpArgs false
theorem FnExactWaysFirst : laws_FnExactWaysFirst.Pure := by
  intro s n hs hn
  by_cases hz : (s.size : Int) > 1048576
  · exact ⟨0, by unfold laws_FnExactWaysFirst.f; rw [if_pos hz]⟩
  have fin : ∀ b : List Int × Bool, b.1.length ≤ 1000000 → Ev (fun q => impl_WaysFirst.f q s n) b → Ev (fun q => spec_WaysFirst.f q s n) b → ∃ q, laws_FnExactWaysFirst.f q s n = some true := by
    intro x hx h1 h2
    refine Ev.rounds ?_
    have e := eqI_ev x.1 hx
    obtain ⟨l', m1, m2⟩ := mark_ev x.1 hx
    have m3 := held_ev x.1.length hx l' m2
    have j1 : Ev (fun k => laws_FnExactWaysFirst.j1 k l' ((x.1.length + 1 : Nat) : Int) (x.2 != x.2)) true := by
      refine Ev.step (f := fun k => (laws_heldIntS.f k l' 1).bind fun t => if t < 0 then some false else if t = ((x.1.length + 1 : Nat) : Int) then some true else some false) (fun k => by simp only [laws_FnExactWaysFirst.j1, bne_self_eq_false, Bool.false_eq_true, if_false]) ?_
      refine Ev.bind m3 (Ev.const fun k => ?_)
      rw [if_neg (by omega), if_pos rfl]
    have j0 : Ev (fun k => laws_FnExactWaysFirst.j0 k s n x.1 x.2 x.1 (x.2 != x.2)) true := by
      refine Ev.step (f := fun k => (laws_markIntS.f k x.1 1).bind fun bt => (laws_heldIntS.f k bt.2 1).bind fun t => if t < 0 then some false else if t = bt.1 then (impl_WaysFirst.f k s n).bind fun b => (laws_eqIntS.f k b.1 x.1).bind fun u => if u = true then laws_FnExactWaysFirst.j1 k bt.2 bt.1 (b.2 != x.2) else laws_FnExactWaysFirst.j1 k bt.2 bt.1 true else some false) (fun k => by simp only [laws_FnExactWaysFirst.j0, bne_self_eq_false, Bool.false_eq_true, if_false]) ?_
      refine Ev.bind m1 (Ev.bind m3 ?_)
      refine Ev.eq (funext fun k => if_neg (by omega)) (Ev.eq (funext fun k => if_pos rfl) ?_)
      exact Ev.bind h1 (Ev.bind e (Ev.eq (funext fun k => if_pos rfl) j1))
    unfold laws_FnExactWaysFirst.f
    simp only [if_neg hz]
    exact Ev.bind h2 (Ev.bind h1 (Ev.bind e (Ev.eq (funext fun k => if_pos rfl) j0)))
  have cs := small_cases s (by omega)
  by_cases hx : NoSmall s ∨ ¬ (0 ≤ n ∧ n ≤ 40)
  · obtain ⟨h1, h2⟩ := waysFirst_no cs hx
    exact fin _ (by simp) h1 h2
  · rcases cs with h | ⟨t, r, h⟩
    · exact absurd (Or.inl h) hx
    · have hn2 : 0 ≤ n ∧ n ≤ 40 := Decidable.byContradiction fun k => hx (Or.inr k)
      obtain ⟨m, rfl⟩ : ∃ m : Nat, n = (m : Int) := ⟨n.toNat, by omega⟩
      obtain ⟨res, hres⟩ := firstR_exists (Pl.hasB t r) m
      have hl := firstR_len hres
      exact fin res (by omega) (waysFirst_impl h m (by omega) res hres) (waysFirst_spec h m (by omega) res hres)

end Go.Proofs.Ytcbgflejdgcmeaa.Pure
