/- The law FnSolveMost holds for all that it draws. -/
import Derived.Laws.BitsLemmas
import Derived.Test.YtpkpgdlbgcjloaaCFnSolveMost1
import Derived.Test.YtpkpgdlbgcjloaaCFnSolveMost8
import Derived.Test.YtpkpgdlbgcjloaaCFnSolveMost9
import Derived.Test.YtpkpgdlbgcjloaaCFnSolveMost10
import Derived.Test.YtpkpgdlbgcjloaaCFnSolveMost11
import Derived.Test.YtpkpgdlbgcjloaaCFnSolveMost12
namespace Go.Proofs.Ytpkpgdlbgcjloaa.Q
open Go.RowKit Go.Proofs.YtpkpgdlbgcjloaaW.PrintWords Go.Proofs.YtpkpgdlbgcjloaaW.PrintLast Go.Proofs.YtpkpgdlbgcjloaaW.PrintMore
open Go.Proofs.Ytpkpgdlbgcjloaa.Pl (hasB)
set_option linter.unusedVariables false
set_option linter.unusedSimpArgs false
theorem read_yes (s : ByteArray) (hs : s.size ≤ 1073741824) (i : Nat) (h1 : i < s.data.toList.length) (h2 : Lib.indexByte s.data.toList 40 = i) (h3 : s.data.toList.getD i 0 = 40) (h4 : ∀ j, j < i → s.data.toList.getD j 0 ≠ 40)
    (c1 : i + 2 < s.size) (c2 : s.data.toList.getD (s.size - 1) 0 = 41) (o1 : okL (s.extract 0 i).data.toList = true) (o2 : okL (s.extract (i + 1) (s.size - 1)).data.toList = true) (q : i ≤ 60 ∧ s.size - i - 2 ≤ 60) :
    IsSet s ((s.extract 0 i).data.toList.map (· == 49)) ((s.extract (i + 1) (s.size - 1)).data.toList.map (· == 49)) := by
  have hl := size_data s
  have hsg := fun (x : ByteArray) (hx : x.size ≤ 1073741824) => signs_ev x hx
  have hi : i < s.size := by omega
  have hc : strings_Cut.f s ⟨#[40]⟩ = some (s.extract 0 i, s.extract (i + 1) s.size, true) := by
    unfold strings_Cut.f stringslite_Cut.f stringslite_Index.f
    rw [dif_pos (by rfl)]
    show ((some (Lib.indexByte s.data.toList 40)).bind _).bind _ = _
    rw [h2]
    simp only [Option.bind_some]
    have hz : ((⟨#[40]⟩ : ByteArray).size : Int) = 1 := rfl
    rw [if_pos (by omega), if_pos (by omega), if_pos (by omega), hz, wr (by omega) (by omega), if_pos (by omega), if_pos (by omega)]
    simp only [Option.bind_some, Int.toNat_natCast]
    rw [show ((i : Int) + 1).toNat = i + 1 from by omega]
  have hz1 : (s.extract (i + 1) s.size).size = s.size - (i + 1) := ext_size _ _ _ (Nat.le_refl _)
  have h41 : ((⟨#[41]⟩ : ByteArray).size : Int) = 1 := rfl
  have hsuf : strings_CutSuffix.f (s.extract (i + 1) s.size) ⟨#[41]⟩ = some (if i + 1 < s.size ∧ s.data.toList.getD (s.size - 1) 0 = 41 then (s.extract (i + 1) (s.size - 1), true) else (s.extract (i + 1) s.size, false)) := by
    unfold strings_CutSuffix.f stringslite_CutSuffix.f stringslite_HasSuffix.f
    rw [h41]
    by_cases c : i + 1 < s.size
    · rw [if_pos (by omega), wr (by omega) (by omega), if_pos (by omega), if_pos (by omega), show (((s.extract (i + 1) s.size).size : Int) - 1).toNat = (s.extract (i + 1) s.size).size - 1 from by omega, last_eq c, ring_eq c]
      simp only [Option.bind_some]
      have hb : ([s.data.toList.getD (s.size - 1) 0] == (⟨#[41]⟩ : ByteArray).toList) = decide (s.data.toList.getD (s.size - 1) 0 = 41) := by
        rw [toList_eq, Bool.eq_iff_iff]; simp
      rw [hb]
      by_cases e : s.data.toList.getD (s.size - 1) 0 = 41
      · rw [decide_eq_true e, if_pos rfl, if_pos (by omega), if_pos (by omega), if_pos ⟨c, e⟩]; rfl
      · rw [decide_eq_false e, if_neg (by simp), if_neg (by intro h; exact e h.2)]; rfl
    · rw [if_neg (by omega)]
      simp only [Option.bind_some, Bool.false_eq_true, if_false]
      rw [if_neg (fun h => c h.1)]
  have hspec : ∀ (r : List Bool × List Bool × Bool), Ev (fun k => spec_l1Read.j1 k s i [] [false]) r → Ev (fun k => spec_l1Read.f k s) r := by
    intro r hr
    exact read_l0 s hs [] [false] i (by omega) (fun j hj => h4 j hj) (fun _ => h3) hr i 0 (by omega)
  have hnull : ∀ x : Bool, x = true → Ev (fun k => spec_l1Read.j2 k s (i : Nat) x [] [false]) (([] : List Bool), [false], false) := by
    intro x hx
    refine Ev.end fun k => ?_
    simp only [spec_l1Read.j2]
    rw [if_pos hx]
  -- for the reader's bracket at the end
  have hj1 : ∀ r, Ev (fun k => spec_l1Read.j2 k s (i : Nat) (decide (s.size ≤ i + 2) || s.data.toList.getD (s.size - 1) 0 != 41) [] [false]) r → Ev (fun k => spec_l1Read.j1 k s i [] [false]) r := by
    intro r hr
    refine Ev.step (fun k => ?_) hr
    simp only [spec_l1Read.j1]
    rw [wr (x := (i : Int) + 2) (by omega) (by omega), wr (x := (s.size : Int) - 1) (by omega) (by omega)]
    by_cases c : s.size ≤ i + 2
    · rw [if_pos (by omega)]; simp [c]
    · rw [if_neg (by omega), if_pos (by omega), if_pos (by omega)]
      rw [show (s.size : Int) - 1 = ((s.size - 1 : Nat) : Int) from by omega]
      congr 1
      simp only [c, decide_false, Bool.false_or]
      have := bt_is s (s.size - 1) (by omega) 41 41 rfl
      rw [Bool.eq_iff_iff]; simp only [bne_iff_ne, ne_eq, this]
  rw [if_pos ⟨by omega, c2⟩] at hsuf
  have e1 := hsg (s.extract 0 i) (by rw [ext_size _ _ _ (by omega)]; omega)
  have e2 := hsg (s.extract (i + 1) (s.size - 1)) (by rw [ext_size _ _ _ (by omega)]; omega)
  have g1 := l1Signs_ev (s.extract 0 i) (by rw [ext_size _ _ _ (by omega)]; omega)
  have g2 := l1Signs_ev (s.extract (i + 1) (s.size - 1)) (by rw [ext_size _ _ _ (by omega)]; omega)
  have z1 : (s.extract 0 i).size = i := by rw [ext_size _ _ _ (by omega)]; omega
  have z2 : (s.extract (i + 1) (s.size - 1)).size = s.size - i - 2 := by rw [ext_size _ _ _ (by omega)]; omega
  have y1 := size_data (s.extract 0 i)
  have y2 := size_data (s.extract (i + 1) (s.size - 1))
  rw [z1] at e1 y1
  rw [z2] at e2 y2
  have himpl : impl_setOf.f s = (impl_signs.f (s.extract 0 i)).bind fun x => (impl_signs.f (s.extract (i + 1) (s.size - 1))).bind fun y => some (x.1, y.1, x.2 && y.2 && decide ((y.1.length : Int) > 0)) := by
    unfold impl_setOf.f
    rw [hc]; simp only [Option.bind_some]
    rw [hsuf]; simp only [Option.bind_some]
    congr 1; funext x; congr 1; funext y
    cases x.2 <;> cases y.2 <;> simp
  have hj2 : ∀ (x y : List Bool × Bool), Ev (fun k => spec_l1Signs.f k (s.extract 0 i)) x → Ev (fun k => spec_l1Signs.f k (s.extract (i + 1) (s.size - 1))) y →
      Ev (fun k => spec_l1Read.f k s) (if x.2 && y.2 && decide (x.1.length ≤ 60) && decide (y.1.length ≤ 60) then (x.1, y.1, true) else ([], [false], false)) := by
    intro x y hx hy
    refine hspec _ (hj1 _ ?_)
    have : (decide (s.size ≤ i + 2) || s.data.toList.getD (s.size - 1) 0 != 41) = false := by rw [c2]; simp; omega
    rw [this]
    refine Ev.step (f := fun k => (spec_l1Signs.f k (s.extract 0 i)).bind fun bt121 => (spec_l1Signs.f k (s.extract (i + 1) (s.size - 1))).bind fun bt125 => (if bt121.2 = true then (if bt125.2 = true then (if (bt121.1.length : Int) > 60 then (some (([] : List Bool), [false], false)) else (if (bt125.1.length : Int) > 60 then (some ([], [false], false)) else (some (bt121.1, bt125.1, true)))) else (some ([], [false], false))) else (some ([], [false], false)))) (fun k => ?_) ?_
    · simp only [spec_l1Read.j2]
      rw [if_neg (by simp), if_pos (by omega), if_pos (by omega), wr (x := (i : Int) + 1) (by omega) (by omega), wr (x := (s.size : Int) - 1) (by omega) (by omega)]
      simp only [if_pos (show (0 : Int) ≤ (i : Int) + 1 from by omega), if_pos (show (i : Int) + 1 ≤ (s.size : Int) - 1 from by omega), if_pos (show (s.size : Int) - 1 ≤ (s.size : Int) from by omega)]
      rw [Int.toNat_natCast, show ((i : Int) + 1).toNat = i + 1 from by omega, show ((s.size : Int) - 1).toNat = s.size - 1 from by omega]
    · refine Ev.bind hx (Ev.bind hy (Ev.const fun k => ?_))
      obtain ⟨x1, x2⟩ := x
      obtain ⟨y1, y2⟩ := y
      cases x2 <;> cases y2 <;> simp
      by_cases q1 : x1.length ≤ 60
      · by_cases q2 : y1.length ≤ 60
        · rw [if_neg (by omega), if_neg (by omega), if_pos ⟨q1, q2⟩]
        · rw [if_neg (by omega), if_pos (by omega), if_neg (by omega)]
      · rw [if_pos (by omega), if_neg (by omega)]
  have hfin := hj2 _ _ g1 g2
  rw [e1, e2] at himpl
  simp only [Option.bind_some] at himpl
  rw [o1, o2] at himpl hfin
  simp only [if_true, List.length_map, Bool.and_self, Bool.true_and] at himpl hfin
  rw [y1, y2] at hfin
  rw [y2] at himpl
  refine ⟨⟨?_, by rw [List.length_map]; omega, by rw [List.length_map]; omega⟩, himpl.trans ?_, ?_⟩
  · rw [List.length_map]; omega
  · rw [decide_eq_true (show ((i : Nat) : Int) ≤ 60 from by omega), decide_eq_true (show (((s.size - i - 2 : Nat) : Int) ≤ 60) from by omega), decide_eq_true (show (((s.size - i - 2 : Nat) : Int) > 0) from by omega)]
    rfl
  · rw [decide_eq_true q.1, decide_eq_true q.2] at hfin
    exact hfin

/-- The signs of a list. -/
def tell (l : List Bool) : List UInt8 := l.map fun b => if b = true then 49 else 48
theorem tell_length (l : List Bool) : (tell l).length = l.length := by simp [tell]
theorem tell_back (l : List Bool) : (tell l).map (· == 49) = l := by
  induction l with
  | nil => rfl
  | cons b l ih => cases b <;> simp [tell] at * <;> exact ih
theorem tell_ok (l : List Bool) : okL (tell l) = true := by
  induction l with
  | nil => rfl
  | cons b l ih => cases b <;> simp [tell, okL] at * <;> exact ih
theorem tell_ne (l : List Bool) (j : Nat) (h : j < l.length) : (tell l).getD j 0 ≠ 40 := by
  simp only [tell, List.getD, List.getElem?_map, List.getElem?_eq_getElem h, Option.map_some, Option.getD_some]
  split <;> decide
/-- The text of a tail and a ring. -/
def textL (t r : List Bool) : List UInt8 := tell t ++ 40 :: (tell r ++ [41])
def text (t r : List Bool) : ByteArray := ⟨(textL t r).toArray⟩
theorem textL_length (t r : List Bool) : (textL t r).length = t.length + r.length + 2 := by simp [textL, tell_length]; omega
theorem text_size (t r : List Bool) : (text t r).size = t.length + r.length + 2 := textL_length t r
theorem text_isSet {t r : List Bool} (h : Good t r) : IsSet (text t r) t r := by
  have h1 := h.pos
  have h2 := h.tl
  have h3 := h.rl
  have hz := text_size t r
  have hd : (text t r).data.toList = textL t r := rfl
  have hget : (textL t r).getD t.length 0 = 40 := by
    simp [textL, List.getD, tell_length]
  have hne : ∀ j, j < t.length → (textL t r).getD j 0 ≠ 40 := by
    intro j hj
    have := tell_ne t j hj
    simp only [textL, List.getD] at this ⊢
    rw [List.getElem?_append_left (by rw [tell_length]; exact hj)]
    exact this
  have hlast : (textL t r).getD ((text t r).size - 1) 0 = 41 := by
    rw [hz]
    simp only [textL, List.getD]
    rw [List.getElem?_append_right (by rw [tell_length]; omega), tell_length]
    rw [show t.length + r.length + 2 - 1 - t.length = r.length + 1 from by omega, List.getElem?_cons_succ, List.getElem?_append_right (by rw [tell_length]; omega), tell_length, Nat.sub_self]
    rfl
  have hidx : Lib.indexByte (text t r).data.toList 40 = (t.length : Int) := by
    rcases index_cases (text t r).data.toList 40 with ⟨_, g⟩ | ⟨i, g1, g2, g3, g4⟩
    · exact absurd hget (g t.length (by rw [hd, textL_length]; omega))
    · have : i = t.length := by
        rcases Nat.lt_trichotomy i t.length with c | c | c
        · exact absurd g3 (hne i c)
        · exact c
        · exact absurd hget (g4 t.length c)
      rw [g2, this]
  have x1 : ((text t r).extract 0 t.length).data.toList = tell t := by
    rw [ext_list, hd, List.drop_zero]
    simp [textL, tell_length]
  have x2 : ((text t r).extract (t.length + 1) ((text t r).size - 1)).data.toList = tell r := by
    rw [ext_list, hd, hz]
    have e : textL t r = tell t ++ [40] ++ tell r ++ [41] := by simp [textL]
    rw [e, show t.length + r.length + 2 - 1 = (tell t ++ [40] ++ tell r).length from by simp [tell_length]; omega, List.take_left' rfl, List.append_assoc, ← List.append_assoc]
    exact List.drop_left' (by simp [tell_length])
  have := read_yes (text t r) (by omega) t.length (by rw [hd, textL_length]; omega) hidx hget hne (by omega) hlast (by rw [x1]; exact tell_ok t) (by rw [x2]; exact tell_ok r) ⟨by omega, by omega⟩
  rw [x1, x2, tell_back, tell_back] at this
  exact this
end Go.Proofs.Ytpkpgdlbgcjloaa.Q

namespace Go.Proofs.Ytpkpgdlbgcjloaa.Q
open Go.RowKit Go.Proofs.YtpkpgdlbgcjloaaW.PrintWords Go.Proofs.YtpkpgdlbgcjloaaW.PrintLast Go.Proofs.YtpkpgdlbgcjloaaW.PrintMore
open Go.Proofs.Ytpkpgdlbgcjloaa.Pl
set_option linter.unusedVariables false
set_option linter.unusedSimpArgs false
/-- What is told of a set: the text of its tidy form, if this is not too long. -/
def Told (f : Nat → Bool) (x : ByteArray × Bool) : Prop := ∃ t r, Canon t r ∧ (∀ n, hasB t r n = f n) ∧ x = if t.length ≤ 60 ∧ r.length ≤ 60 then (text t r, true) else ((⟨#[]⟩ : ByteArray), false)
theorem Told.unique {f : Nat → Bool} {x y : ByteArray × Bool} (h : Told f x) (k : Told f y) : x = y := by
  obtain ⟨t, r, h1, h2, rfl⟩ := h
  obtain ⟨t', r', k1, k2, rfl⟩ := k
  obtain ⟨rfl, rfl⟩ := canon_unique h1 k1 (fun n => by rw [h2, k2])
  rfl
theorem Told.congr {f g : Nat → Bool} {x : ByteArray × Bool} (h : Told f x) (e : ∀ n, f n = g n) : Told g x := by
  obtain ⟨t, r, h1, h2, h3⟩ := h
  exact ⟨t, r, h1, fun n => by rw [h2, e], h3⟩
theorem Told.yes {f : Nat → Bool} {x : ByteArray × Bool} (h : Told f x) (e : x.2 = true) : ∃ t r, Canon t r ∧ Good t r ∧ (∀ n, hasB t r n = f n) ∧ x = (text t r, true) := by
  obtain ⟨t, r, h1, h2, rfl⟩ := h
  by_cases c : t.length ≤ 60 ∧ r.length ≤ 60
  · exact ⟨t, r, h1, ⟨h1.pos, c.1, c.2⟩, h2, by rw [if_pos c]⟩
  · rw [if_neg c] at e; cases e
theorem Told.no {f : Nat → Bool} {x : ByteArray × Bool} (h : Told f x) (e : x.2 = false) : x = ((⟨#[]⟩ : ByteArray), false) := by
  obtain ⟨t, r, h1, h2, rfl⟩ := h
  by_cases c : t.length ≤ 60 ∧ r.length ≤ 60
  · rw [if_pos c] at e; cases e
  · rw [if_neg c]
theorem Told.of {f : Nat → Bool} {t r : List Bool} (h : Canon t r) (g : Good t r) (e : ∀ n, hasB t r n = f n) : Told f (text t r, true) := ⟨t, r, h, e, by rw [if_pos ⟨g.tl, g.rl⟩]⟩

theorem tidied_long {t r : List Bool} (ht : t.length ≤ 1073741824) (h1 : 0 < r.length) (h2 : r.length ≤ 1073741824) : ∃ t' r', Ev (fun k => impl_set_tidy.f k t r) (t', r') ∧ Ev (fun k => spec_l1Less.f k t r) (t', r') ∧ Canon t' r' ∧ (∀ n, hasB t' r' n = hasB t r n) := by
  obtain ⟨t', r', g1, g2, g3, g4, g5⟩ := tidy_l0 t r ht h1 h2 (r.length - 1) 1 (by omega) (by omega) (fun e he1 he2 => by omega)
  obtain ⟨t2, r2, k1, k2, k3, k4, k5⟩ := less_ev (t.length + r.length) t r rfl ht h1 h2
  obtain ⟨rfl, rfl⟩ := canon_unique g2 k2 (fun n => by rw [g3, k3])
  exact ⟨t', r', g1, k1, g2, g3⟩

theorem told_eq (l : List Bool) (h : l.length ≤ 1000000) : impl_told.f l = some ⟨(tell l).toArray⟩ := by
  unfold impl_told.f
  rw [if_pos (by omega)]
  rfl
theorem tell_size (l : List Bool) : (⟨(tell l).toArray⟩ : ByteArray).size = l.length := tell_length l
theorem ba_ext {a b : ByteArray} (h : a.data.toList = b.data.toList) : a = b := by
  obtain ⟨⟨a⟩⟩ := a; obtain ⟨⟨b⟩⟩ := b; simp at h; simp [h]
theorem ba_append (a b : ByteArray) : (a ++ b).data.toList = a.data.toList ++ b.data.toList := by simp
theorem text_eq (t r : List Bool) : (((⟨(tell t).toArray⟩ : ByteArray) ++ (⟨#[40]⟩ : ByteArray)) ++ (⟨(tell r).toArray⟩ : ByteArray)) ++ (⟨#[41]⟩ : ByteArray) = text t r := by
  refine ba_ext ?_
  rw [ba_append, ba_append, ba_append]
  simp [text, textL]
theorem text_ev {t r : List Bool} (ht : t.length ≤ 60) (hr : r.length ≤ 60) : Ev (fun k => impl_set_text.f k t r) (text t r, true) := by
  unfold impl_set_text.f
  refine Ev.eq (funext fun k => if_neg (by omega)) ?_
  rw [decide_eq_false (by omega)]
  refine Ev.end fun k => ?_
  simp only [impl_set_text.j0, Bool.false_eq_true, if_false]
  rw [told_eq t (by omega), told_eq r (by omega)]
  simp only [Option.bind_some, tell_size]
  rw [if_pos (by omega), if_pos (by omega), if_pos (by omega), text_eq]
theorem text_no {t r : List Bool} (h : ¬ (t.length ≤ 60 ∧ r.length ≤ 60)) : Ev (fun k => impl_set_text.f k t r) ((⟨#[]⟩ : ByteArray), false) := by
  have go : Ev (fun k => impl_set_text.j0 k true t r) ((⟨#[]⟩ : ByteArray), false) := Ev.end fun k => by simp only [impl_set_text.j0, if_true]
  unfold impl_set_text.f
  by_cases c : (t.length : Int) > 60
  · exact Ev.eq (funext fun k => if_pos c) go
  · refine Ev.eq (funext fun k => if_neg c) ?_
    rw [decide_eq_true (by omega)]
    exact go
theorem text_told {t r : List Bool} (h : Canon t r) : ∃ x, Ev (fun k => impl_set_text.f k t r) x ∧ Told (hasB t r) x := by
  by_cases c : t.length ≤ 60 ∧ r.length ≤ 60
  · exact ⟨_, text_ev c.1 c.2, t, r, h, fun _ => rfl, by rw [if_pos c]⟩
  · exact ⟨_, text_no c, t, r, h, fun _ => rfl, by rw [if_neg c]⟩

def num (b : Bool) : Int := if b = true then 49 else 48
theorem write_step (b : Bool) {α : Type} (g : Int → Option α) : ((spec_l1Bit.f b).bind fun x => if 0 ≤ x then (if x < 2 then g (bt (⟨#[48, 49]⟩ : ByteArray) x) else none) else none) = g (num b) := by
  cases b <;> rfl
theorem write_l1 (t r : List Bool) (hr : r.length ≤ 1000000) (acc : List Int) (hacc : acc.length ≤ 1000000) (d : Nat) : ∀ i, i + d = r.length → Ev (fun k => spec_l1Write.l1 k (acc ++ (r.take i).map num) (i : Nat) t r) (strOfNums (acc ++ r.map num ++ [41])) := by
  induction d with
  | zero =>
    intro i hi
    obtain rfl : i = r.length := by omega
    refine Ev.end fun k => ?_
    simp only [spec_l1Write.l1]
    rw [List.take_of_length_le (Nat.le_refl _), if_neg (by omega), if_pos (by simp; omega)]
  | succ d ih =>
    intro i hi
    have hg : r.take (i + 1) = r.take i ++ [r.getD i false] := by
      rw [List.take_succ_eq_append_getElem (by omega)]; simp [List.getD, List.getElem?_eq_getElem (show i < r.length by omega)]
    refine Ev.step (fun k => ?_) (ih (i + 1) (by omega))
    simp only [spec_l1Write.l1]
    rw [if_pos (by omega), if_pos (by omega), rdOf_nat, write_step (r.getD i false) (fun v => if (acc ++ (r.take i).map num).length < 140737488355328 then spec_l1Write.l1 k ((acc ++ (r.take i).map num) ++ [v]) (wrap64 ((i : Int) + 1)) t r else none)]
    rw [if_pos (by simp; omega), wr1 (by omega), hg, List.map_append, List.append_assoc]
    rfl
theorem write_l0 (t r : List Bool) (ht : t.length ≤ 100000) (hr : r.length ≤ 1000000) (d : Nat) : ∀ i, i + d = t.length → Ev (fun k => spec_l1Write.l0 k ((t.take i).map num) (i : Nat) t r) (strOfNums (t.map num ++ [40] ++ r.map num ++ [41])) := by
  induction d with
  | zero =>
    intro i hi
    obtain rfl : i = t.length := by omega
    have := write_l1 t r hr (t.map num ++ [40]) (by simp; omega) r.length 0 (by omega)
    refine Ev.step (fun k => ?_) this
    simp only [spec_l1Write.l0]
    rw [List.take_of_length_le (Nat.le_refl _), if_neg (by omega), if_pos (by simp; omega), List.take_zero, List.map_nil, List.append_nil]
    rfl
  | succ d ih =>
    intro i hi
    have hg : t.take (i + 1) = t.take i ++ [t.getD i false] := by
      rw [List.take_succ_eq_append_getElem (by omega)]; simp [List.getD, List.getElem?_eq_getElem (show i < t.length by omega)]
    refine Ev.step (fun k => ?_) (ih (i + 1) (by omega))
    simp only [spec_l1Write.l0]
    rw [if_pos (by omega), if_pos (by omega), rdOf_nat, write_step (t.getD i false) (fun v => if ((t.take i).map num).length < 140737488355328 then spec_l1Write.l0 k (((t.take i).map num) ++ [v]) (wrap64 ((i : Int) + 1)) t r else none)]
    rw [if_pos (by simp; omega), wr1 (by omega), hg, List.map_append]
    rfl
theorem num_byte (l : List Bool) : (l.map num).map (fun n : Int => UInt8.ofNat n.toNat) = tell l := by
  induction l with
  | nil => rfl
  | cons b l ih => simp only [List.map_cons, ih, tell]; cases b <;> rfl
theorem str_text (t r : List Bool) : strOfNums (t.map num ++ [40] ++ r.map num ++ [41]) = text t r := by
  unfold strOfNums text textL
  rw [List.map_append, List.map_append, List.map_append, num_byte, num_byte]
  simp
theorem write_ev {t r : List Bool} (ht : t.length ≤ 60) (hr : r.length ≤ 60) : Ev (fun k => spec_l1Write.f k t r) (text t r) := by
  have := write_l0 t r (by omega) (by omega) t.length 0 (by omega)
  rw [str_text] at this
  exact this
theorem done_told {t r : List Bool} (ht : t.length ≤ 1073741824) (h1 : 0 < r.length) (h2 : r.length ≤ 1073741824) : ∃ x, Ev (fun k => spec_l1Done.f k t r) x ∧ Told (hasB t r) x := by
  obtain ⟨t', r', g1, g2, g3, g4⟩ := tidied_long ht h1 h2
  unfold spec_l1Done.f
  by_cases c1 : t'.length ≤ 60
  · by_cases c2 : r'.length ≤ 60
    · refine ⟨(text t' r', true), Ev.bind g2 (Ev.eq (funext fun k => if_neg (by show ¬ (t'.length : Int) > 60; omega)) (Ev.eq (funext fun k => if_neg (by show ¬ (r'.length : Int) > 60; omega)) (Ev.bind (write_ev c1 c2) (Ev.now _)))), t', r', g3, g4, by rw [if_pos ⟨c1, c2⟩]⟩
    · refine ⟨((⟨#[]⟩ : ByteArray), false), Ev.bind g2 (Ev.eq (funext fun k => if_neg (by show ¬ (t'.length : Int) > 60; omega)) (Ev.eq (funext fun k => if_pos (by show (r'.length : Int) > 60; omega)) (Ev.now _))), t', r', g3, g4, by rw [if_neg (fun h => c2 h.2)]⟩
  · refine ⟨((⟨#[]⟩ : ByteArray), false), Ev.bind g2 (Ev.eq (funext fun k => if_pos (by show (t'.length : Int) > 60; omega)) (Ev.now _)), t', r', g3, g4, by rw [if_neg (fun h => c1 h.1)]⟩
theorem fill_told {l : List Bool} {m : Nat} (hl : l.length ≤ 1073741824) (hm : m < l.length) : ∃ x, Ev (fun k => spec_l2Fill.f k l m) x ∧ Told (hasB (l.take m) (l.drop m)) x := by
  obtain ⟨x, h1, h2⟩ := done_told (t := l.take m) (r := l.drop m) (by rw [List.length_take]; omega) (by rw [List.length_drop]; omega) (by rw [List.length_drop]; omega)
  refine ⟨x, ?_, h2⟩
  unfold spec_l2Fill.f
  refine Ev.eq (funext fun k => if_pos (by omega)) (Ev.eq (funext fun k => if_pos (by omega)) ?_)
  simp only [Int.toNat_natCast]
  exact Ev.bind h1 (Ev.now _)

theorem per_of {f : Nat → Bool} {from_ size : Nat} (h1 : 1 ≤ size) (hp : ∀ n, from_ ≤ n → f (n + size) = f n) (n : Nat) : hasB ((List.range from_).map f) ((List.range size).map fun i => f (from_ + i)) n = f n := by
  have e1 : ((List.range from_).map f).length = from_ := by simp
  have e2 : ((List.range size).map fun i => f (from_ + i)).length = size := by simp
  rcases Nat.lt_or_ge n from_ with c | c
  · rw [hasB_lt (by rw [e1]; exact c)]
    simp [List.getD, c]
  · rw [hasB_ge (by rw [e1]; exact c), e1, e2]
    have hm := Nat.mod_lt (n - from_) h1
    have hd := Nat.div_add_mod (n - from_) size
    have hq : ∀ q m, from_ ≤ m → f (m + q * size) = f m := by
      intro q
      induction q with
      | zero => intro m _; simp
      | succ q ih => intro m hm; rw [Nat.succ_mul, ← Nat.add_assoc, hp _ (by omega), ih m hm]
    simp only [List.getD, List.getElem?_map, List.getElem?_range hm, Option.map_some, Option.getD_some]
    rw [← hq ((n - from_) / size) (from_ + (n - from_) % size) (by omega), Nat.mul_comm]
    congr 1
    omega
theorem range_snoc (f : Nat → Bool) (i : Nat) : (List.range (i + 1)).map f = (List.range i).map f ++ [f i] := by rw [List.range_succ, List.map_append]; rfl
theorem made_l1 (f : Nat → Bool) (from_ size : Nat) (hb : from_ ≤ 1000000 ∧ size ≤ 1000000) (p : Int → Option Bool) (hp : ∀ n : Nat, n < from_ + size → p n = some (f n)) (T : List Bool) {x : ByteArray × Bool}
    (hx : Ev (fun k => (impl_set_tidy.f k T ((List.range size).map fun i => f (from_ + i))).bind fun b => (impl_set_text.f k b.1 b.2).bind fun c => some (c.1, c.2)) x) (d : Nat) :
    ∀ i, i + d = size → Ev (fun k => impl_made.l1 p k from_ size (i : Nat) T ((List.range i).map fun i => f (from_ + i))) x := by
  induction d with
  | zero =>
    intro i hi
    obtain rfl : i = size := by omega
    refine Ev.step (fun k => ?_) hx
    simp only [impl_made.l1]
    rw [if_neg (by omega)]
  | succ d ih =>
    intro i hi
    refine Ev.step (fun k => ?_) (ih (i + 1) (by omega))
    simp only [impl_made.l1]
    rw [if_pos (by omega), wr (x := (from_ : Int) + (i : Int)) (by omega) (by omega), show (from_ : Int) + (i : Int) = ((from_ + i : Nat) : Int) from by omega, hp _ (by omega)]
    simp only [Option.bind_some]
    rw [if_pos (by simp; omega), wr1 (by omega), range_snoc (fun i => f (from_ + i))]
theorem made_l0 (f : Nat → Bool) (from_ size : Nat) (hb : from_ ≤ 1000000 ∧ size ≤ 1000000) (p : Int → Option Bool) (hp : ∀ n : Nat, n < from_ + size → p n = some (f n)) {x : ByteArray × Bool}
    (hx : Ev (fun k => impl_made.l1 p k from_ size 0 ((List.range from_).map f) ([] : List Bool)) x) (d : Nat) :
    ∀ i, i + d = from_ → Ev (fun k => impl_made.l0 p k from_ size from_ (i : Nat) ((List.range i).map f)) x := by
  induction d with
  | zero =>
    intro i hi
    obtain rfl : i = from_ := by omega
    refine Ev.step (fun k => ?_) hx
    simp only [impl_made.l0]
    rw [if_neg (by omega)]
  | succ d ih =>
    intro i hi
    refine Ev.step (fun k => ?_) (ih (i + 1) (by omega))
    simp only [impl_made.l0]
    rw [if_pos (by omega), hp _ (by omega)]
    simp only [Option.bind_some]
    rw [if_pos (by simp; omega), wr1 (by omega), range_snoc f]
theorem made_ev {f : Nat → Bool} {from_ size : Nat} (h1 : 1 ≤ size) (hb : from_ ≤ 1000000 ∧ size ≤ 1000000) (hper : ∀ n, from_ ≤ n → f (n + size) = f n) {P : Nat → Int → Option Bool} (hP : ∀ n : Nat, n < from_ + size → Ev (fun k => P k n) (f n)) :
    ∃ x, Ev (fun k => impl_made.f k from_ size (P k)) x ∧ Told f x := by
  have e2 : ((List.range size).map fun i => f (from_ + i)).length = size := by simp
  obtain ⟨t, r, g1, g2, g3, g4⟩ := tidied_long (t := (List.range from_).map f) (r := (List.range size).map fun i => f (from_ + i)) (by simp; omega) (by rw [e2]; omega) (by rw [e2]; omega)
  obtain ⟨x, k1, k2⟩ := text_told g3
  refine ⟨x, ?_, k2.congr fun n => by rw [g4, per_of h1 hper]⟩
  -- the question, told once
  let p0 : Int → Option Bool := fun n => if 0 ≤ n ∧ n < (from_ + size : Nat) then some (f n.toNat) else none
  have hp0 : ∀ n : Nat, n < from_ + size → p0 n = some (f n) := by
    intro n hn
    show (if 0 ≤ (n : Int) ∧ (n : Int) < (from_ + size : Nat) then some (f (n : Int).toNat) else none) = _
    rw [if_pos ⟨by omega, by omega⟩, Int.toNat_natCast]
  have h0 : Ev (fun k => impl_made.f k from_ size p0) x := by
    have a1 := made_l1 f from_ size hb p0 hp0 ((List.range from_).map f) (x := x) (Ev.bind g1 (Ev.bind k1 (Ev.now _))) size 0 (by omega)
    exact made_l0 f from_ size hb p0 hp0 a1 from_ 0 (by omega)
  -- all of P's answers from one number of rounds on
  have hK : ∀ N, N ≤ from_ + size → ∃ K, ∀ k, K ≤ k → ∀ n : Nat, n < N → P k n = some (f n) := by
    intro N
    induction N with
    | zero => intro _; exact ⟨0, fun k _ n hn => absurd hn (Nat.not_lt_zero n)⟩
    | succ N ih =>
      intro hN
      obtain ⟨K, hK⟩ := ih (by omega)
      obtain ⟨L, hL⟩ := hP N (by omega)
      refine ⟨max K L, fun k hk n hn => ?_⟩
      rcases Nat.lt_or_ge n N with c | c
      · exact hK k (by omega) n c
      · obtain rfl : n = N := by omega
        exact hL k (by omega)
  obtain ⟨K, hK⟩ := hK _ (Nat.le_refl _)
  obtain ⟨L, hL⟩ := h0
  refine ⟨max K L + 1, fun k hk => ?_⟩
  obtain ⟨m, rfl⟩ : ∃ m, k = m + 1 := ⟨k - 1, by omega⟩
  refine impl_made.mono p0 (P (m + 1)) (fun n q hq => ?_) (from_ : Int) (size : Int) m x (hL m (by omega))
  have hq' : (if 0 ≤ n ∧ n < (from_ + size : Nat) then some (f n.toNat) else none) = some q := hq
  by_cases c : 0 ≤ n ∧ n < (from_ + size : Nat)
  · rw [if_pos c] at hq'
    have := hK (m + 1) (by omega) n.toNat (by omega)
    rw [Int.toNat_of_nonneg c.1] at this
    rw [this]; exact hq'
  · rw [if_neg c] at hq'; cases hq'


theorem gcd_ev (b : Nat) : ∀ a : Nat, Ev (fun k => impl_gcd.f k (a : Int) (b : Int)) ((Nat.gcd a b : Nat) : Int) := by
  induction b using Nat.strongRecOn with
  | _ b ih =>
    intro a
    by_cases c : b = 0
    · subst c
      refine Ev.end fun k => ?_
      simp only [impl_gcd.f, impl_gcd.l0]
      rw [if_pos (by omega), Nat.gcd_zero_right]
    · have h1 := ih (a % b) (Nat.mod_lt _ (by omega)) b
      rw [Nat.gcd_comm b, ← Nat.gcd_rec, Nat.gcd_comm] at h1
      refine Ev.step (fun k => ?_) h1
      simp only [impl_gcd.f, impl_gcd.l0]
      rw [if_neg (by omega), tmod_nat]


theorem lcm_ev {p q : Nat} (hp : 1 ≤ p) (hp2 : p ≤ 60) (hq2 : q ≤ 60) : Ev (fun k => impl_lcm.f k (p : Int) (q : Int)) ((Nat.lcm p q : Nat) : Int) := by
  have hg : 0 < Nat.gcd p q := Nat.gcd_pos_of_pos_left _ hp
  have hd := Nat.div_le_self p (Nat.gcd p q)
  have hm : p / Nat.gcd p q * q ≤ 60 * 60 := Nat.mul_le_mul (by omega) hq2
  have he := lcm_eq p q
  unfold impl_lcm.f
  refine Ev.bind (gcd_ev q p) (Ev.const fun k => ?_)
  rw [if_neg (by omega), tdiv_nat]
  generalize Nat.gcd p q = g at *
  generalize p / g = a at *
  rw [wr (x := (a : Int)) (by omega) (by omega), ← Int.natCast_mul, he, wr (by omega) (by omega)]
/-- Marks of a set that comes again from m on, cut there. -/
theorem fill_tells {l : List Bool} {f : Nat → Bool} {m N : Nat} (hl : Tells l f N) (hm : m < N) (hN : N ≤ 1073741824) (hper : ∀ n, m ≤ n → f (n + (N - m)) = f n) : ∃ x, Ev (fun k => spec_l2Fill.f k l m) x ∧ Told f x := by
  obtain ⟨x, h1, h2⟩ := fill_told (l := l) (m := m) (by rw [hl.len]; exact hN) (by rw [hl.len]; exact hm)
  refine ⟨x, h1, h2.congr fun n => ?_⟩
  have e1 : l.take m = (List.range m).map f := by
    refine ext_getD (by simp [hl.len]; omega) fun i hi => ?_
    have hi2 : i < m := by simp [hl.len] at hi; omega
    rw [getD_take hi2, hl.get i (by omega)]
    simp [List.getD, hi2]
  have e2 : l.drop m = (List.range (N - m)).map fun i => f (m + i) := by
    refine ext_getD (by simp [hl.len]) fun i hi => ?_
    have hi2 : i < N - m := by simp [hl.len] at hi; omega
    have := hl.get (m + i) (by omega)
    simp only [List.getD, List.getElem?_drop, List.getElem?_map, List.getElem?_range hi2, Option.map_some, Option.getD_some] at this ⊢
    exact this
  rw [e1, e2]
  exact per_of (by omega) hper n
theorem tells_range (f : Nat → Bool) (N : Nat) : Tells ((List.range N).map f) f N := ⟨by simp, fun j hj => by simp [List.getD, hj]⟩

theorem sumOf_impl {s u : ByteArray} {ta ra tb rb : List Bool} (h : IsSmall s ta ra) (h2 : IsSmall u tb rb) : ∃ x, Ev (fun k => impl_SumOf.f k s u) x ∧ Told (sumB (hasB ta ra) (hasB tb rb)) x := by
  have hL := lcm_small _ h.rl _ h2.rl h.good.pos h2.good.pos
  have hp := lcm_pos h.good.pos h2.good.pos
  have t1 := h.tl
  have t2 := h2.tl
  obtain ⟨x, k1, k2⟩ := made_ev (f := sumB (hasB ta ra) (hasB tb rb)) (from_ := 200) (size := Nat.lcm ra.length rb.length) hp ⟨by omega, by omega⟩
    (fun n hn => sumB_period (Nat.lcm ra.length rb.length) (lcm_mod_left _ _) (lcm_mod_right _ _) (by omega)) (P := fun k n => impl_sums.f k ta ra tb rb n) (fun n hn => sums_ev h.good h2.good n (by omega))
  refine ⟨x, ?_, k2⟩
  unfold impl_SumOf.f
  refine Ev.bind h.impl (Ev.bind h2.impl ?_)
  simp only [if_true]
  refine Ev.step (f := fun k => (impl_lcm.f k (ra.length : Int) (rb.length : Int)).bind fun t => (impl_made.f k 200 t (fun n_ => impl_sums.f k ta ra tb rb n_)).bind fun b => some (b.1, b.2)) (fun k => by simp only [impl_SumOf.j0, Bool.not_true, Bool.false_eq_true, if_false]) ?_
  exact Ev.bind (lcm_ev h.good.pos h.good.rl h2.good.rl) (Ev.bind k1 (Ev.now _))

theorem sum_l1 {ta ra tb rb : List Bool} (ha : Good ta ra) (hb : Good tb rb) (T L : Nat) (acc : List Bool) (i : Nat) (hi : i ≤ 1000000) (hacc : acc.length = i) {res : ByteArray × Bool}
    (hend : Ev (fun k => spec_l4Sum.l0 k false T L (acc ++ [sumB (hasB ta ra) (hasB tb rb) i]) ((i + 1 : Nat) : Int) ta ra tb rb) res) (d : Nat) :
    ∀ (q : Nat) (b : Bool), q + d = i + 1 → (b = true ↔ ∃ y, y < q ∧ hasB ta ra y = true ∧ hasB tb rb (i - y) = true) → Ev (fun k => spec_l4Sum.l1 k false T L acc (i : Nat) b (q : Nat) ta ra tb rb) res := by
  induction d with
  | zero =>
    intro q b hq hbq
    have e : b = sumB (hasB ta ra) (hasB tb rb) i := by
      rw [Bool.eq_iff_iff, hbq, sumB_iff]
      exact ⟨fun ⟨y, a, c⟩ => ⟨y, by omega, c⟩, fun ⟨y, a, c⟩ => ⟨y, by omega, c⟩⟩
    refine Ev.step (fun k => ?_) hend
    simp only [spec_l4Sum.l1]
    rw [if_neg (by omega), if_pos (by omega), wr1 (by omega), e]
  | succ d ih =>
    intro q b hq hbq
    have hw : wrap64 ((i : Int) - (q : Int)) = ((i - q : Nat) : Int) := wrs (by omega) (by omega)
    cases b with
    | true =>
      obtain ⟨y, y1, y2⟩ := hbq.1 rfl
      refine Ev.step (fun k => ?_) (ih (q + 1) true (by omega) ⟨fun _ => ⟨y, by omega, y2⟩, fun _ => rfl⟩)
      simp only [spec_l4Sum.l1]
      rw [if_pos (by omega), if_pos trivial, wr1 (by omega)]
    | false =>
      have hno : ∀ y, y < q → ¬ (hasB ta ra y = true ∧ hasB tb rb (i - y) = true) := fun y h1 h2 => by
        have := hbq.2 ⟨y, h1, h2⟩
        cases this
      have st : ∀ v : Bool, (v = true ↔ hasB ta ra q = true ∧ hasB tb rb (i - q) = true) → Ev (fun k => spec_l4Sum.l1 k false T L acc (i : Nat) v ((q + 1 : Nat) : Int) ta ra tb rb) res := by
        intro v hv
        refine ih (q + 1) v (by omega) ?_
        rw [hv]
        constructor
        · intro hx; exact ⟨q, by omega, hx⟩
        · rintro ⟨y, h1, h2⟩
          rcases Nat.lt_or_ge y q with c | c
          · exact absurd h2 (hno y c)
          · obtain rfl : y = q := by omega
            exact h2
      cases c1 : hasB ta ra q with
      | false =>
        refine Ev.step (fun k => ?_) (st false ⟨fun h => (by cases h), fun h => (by rw [c1] at h; cases h.1)⟩)
        simp only [spec_l4Sum.l1]
        rw [if_pos (by omega), if_neg (by simp), l1_has ha q (by omega), c1]
        simp only [Option.bind_some, Bool.false_eq_true, if_false]
        rw [wr1 (by omega)]
      | true =>
        cases c2 : hasB tb rb (i - q) with
        | false =>
          refine Ev.step (fun k => ?_) (st false ⟨fun h => (by cases h), fun h => (by rw [c2] at h; cases h.2)⟩)
          simp only [spec_l4Sum.l1]
          rw [if_pos (by omega), if_neg (by simp), l1_has ha q (by omega), c1]
          simp only [Option.bind_some, if_true, hw]
          rw [l1_has hb (i - q) (by omega), c2]
          simp only [Option.bind_some, Bool.false_eq_true, if_false]
          rw [wr1 (by omega)]
        | true =>
          refine Ev.step (fun k => ?_) (st true ⟨fun _ => ⟨c1, c2⟩, fun _ => rfl⟩)
          simp only [spec_l4Sum.l1]
          rw [if_pos (by omega), if_neg (by simp), l1_has ha q (by omega), c1]
          simp only [Option.bind_some, if_true, hw]
          rw [l1_has hb (i - q) (by omega), c2]
          simp only [Option.bind_some, if_true, Bool.false_eq_true, if_false]
          rw [wr1 (by omega)]
theorem sum_l0 {ta ra tb rb : List Bool} (ha : Good ta ra) (hb : Good tb rb) (T L : Nat) (hTL : T + L ≤ 100000) {x : ByteArray × Bool} (hx : Ev (fun k => spec_l2Fill.f k ((List.range (T + L)).map (sumB (hasB ta ra) (hasB tb rb))) T) x) (d : Nat) :
    ∀ i, i + d = T + L → Ev (fun k => spec_l4Sum.l0 k false T L ((List.range i).map (sumB (hasB ta ra) (hasB tb rb))) (i : Nat) ta ra tb rb) x := by
  induction d with
  | zero =>
    intro i hi
    obtain rfl : i = T + L := by omega
    refine Ev.step (f := fun k => (spec_l2Fill.f k ((List.range (T + L)).map (sumB (hasB ta ra) (hasB tb rb))) T).bind fun b => some (b.1, b.2)) (fun k => ?_) (Ev.bind hx (Ev.now _))
    simp only [spec_l4Sum.l0]
    rw [wr (x := (T : Int) + (L : Int)) (by omega) (by omega), if_neg (by omega)]
  | succ d ih =>
    intro i hi
    have h1 := ih (i + 1) (by omega)
    rw [range_snoc] at h1
    refine Ev.step (fun k => ?_) (sum_l1 ha hb T L _ i (by omega) (by simp) h1 (i + 1) 0 false (by omega) ⟨fun h => (by cases h), fun ⟨y, hy, _⟩ => absurd hy (Nat.not_lt_zero y)⟩)
    simp only [spec_l4Sum.l0]
    rw [wr (x := (T : Int) + (L : Int)) (by omega) (by omega), if_pos (by omega)]
    rfl
theorem sumOf_spec {s u : ByteArray} {ta ra tb rb : List Bool} (h : IsSmall s ta ra) (h2 : IsSmall u tb rb) : ∃ x, Ev (fun k => spec_SumOf.f k s u) x ∧ Told (sumB (hasB ta ra) (hasB tb rb)) x := by
  have hL := lcm_small _ h.rl _ h2.rl h.good.pos h2.good.pos
  have hp := lcm_pos h.good.pos h2.good.pos
  have t1 := h.tl
  have t2 := h2.tl
  have hsh := shape_ev h.good h2.good
  have hper := fun n hn => sumB_period (ta := ta) (ra := ra) (tc := tb) (rc := rb) (n := n) (Nat.lcm ra.length rb.length) (lcm_mod_left _ _) (lcm_mod_right _ _) hn
  generalize Nat.lcm ra.length rb.length = L at *
  have hM : max ta.length tb.length ≤ 8 := by omega
  have hM2 : ta.length + tb.length ≤ 2 * max ta.length tb.length := by omega
  generalize max ta.length tb.length = M at *
  obtain ⟨x, k1, k2⟩ := fill_tells (m := 2 * M + 3 * L + 2) (N := (2 * M + 3 * L + 2) + L) (tells_range (sumB (hasB ta ra) (hasB tb rb)) _) (by omega) (by omega) (fun n hn => by rw [Nat.add_sub_cancel_left]; exact hper n (by omega))
  have k3 := sum_l0 h.good h2.good (2 * M + 3 * L + 2) L (by omega) k1 _ 0 (Nat.zero_add _)
  refine ⟨x, ?_, k2⟩
  unfold spec_SumOf.f
  refine Ev.bind h.spec (Ev.bind h2.spec ?_)
  simp only [if_true]
  refine Ev.bind (f := fun k (b : ByteArray × Bool) => some (b.1, b.2)) (a := x) ?_ (Ev.now x)
  unfold spec_l4Sum.f
  refine Ev.bind hsh ?_
  have e1 : wrap64 ((wrap64 ((wrap64 (2 * (M : Int))) + (wrap64 (3 * (L : Int))))) + 2) = ((2 * M + 3 * L + 2 : Nat) : Int) := by
    rw [wr (x := 2 * (M : Int)) (by omega) (by omega), wr (x := 3 * (L : Int)) (by omega) (by omega), wr (x := 2 * (M : Int) + 3 * (L : Int)) (by omega) (by omega), wr (by omega) (by omega)]; omega
  simp only [e1]
  exact k3
theorem sumOf_both {s u : ByteArray} {ta ra tb rb : List Bool} (h : IsSmall s ta ra) (h2 : IsSmall u tb rb) : ∃ x, Ev (fun k => impl_SumOf.f k s u) x ∧ Ev (fun k => spec_SumOf.f k s u) x ∧ Told (sumB (hasB ta ra) (hasB tb rb)) x := by
  obtain ⟨x, k1, k2⟩ := sumOf_impl h h2
  obtain ⟨y, j1, j2⟩ := sumOf_spec h h2
  obtain rfl := k2.unique j2
  exact ⟨x, k1, j1, k2⟩
theorem sumOf_no {s u : ByteArray} (hs : NoSmall s ∨ ∃ t r, IsSmall s t r) (hu : NoSmall u ∨ ∃ t r, IsSmall u t r) (h : NoSmall s ∨ NoSmall u) : Ev (fun k => impl_SumOf.f k s u) ((⟨#[]⟩ : ByteArray), false) ∧ Ev (fun k => spec_SumOf.f k s u) ((⟨#[]⟩ : ByteArray), false) := by
  have any : ∀ w : ByteArray, (NoSmall w ∨ ∃ t r, IsSmall w t r) → ∃ a b c d ok, Ev (fun k => impl_small.f k w) (a, b, ok) ∧ Ev (fun k => spec_l4Small.f k w) (c, d, ok) ∧ (NoSmall w → ok = false) := by
    rintro w (k | ⟨t, r, k⟩)
    · obtain ⟨⟨a, b, e1⟩, ⟨c, d, e2⟩⟩ := k
      exact ⟨a, b, c, d, false, e1, e2, fun _ => rfl⟩
    · refine ⟨t, r, t, r, true, k.impl, k.spec, fun k2 => ?_⟩
      obtain ⟨⟨a, b, e1⟩, _⟩ := k2
      have := Ev.unique k.impl e1
      simp only [Prod.mk.injEq] at this
      exact absurd this.2.2 (by simp)
  obtain ⟨a, b, c, d, o, g1, g2, g3⟩ := any s hs
  obtain ⟨a', b', c', d', o', g1', g2', g3'⟩ := any u hu
  have ho : o = false ∨ o' = false := h.elim (fun k => .inl (g3 k)) (fun k => .inr (g3' k))
  constructor
  · unfold impl_SumOf.f
    refine Ev.bind g1 (Ev.bind g1' ?_)
    have fin : ∀ x : Bool, x = true → Ev (fun k => impl_SumOf.j0 k x a b a' b') ((⟨#[]⟩ : ByteArray), false) := fun x hx => Ev.end fun k => by simp only [impl_SumOf.j0]; rw [if_pos hx]
    cases o with
    | false => simp only [Bool.false_eq_true, if_false]; exact fin _ rfl
    | true =>
      simp only [if_true]
      exact fin _ (by rcases ho with h | h; cases h; rw [h]; rfl)
  · unfold spec_SumOf.f
    refine Ev.bind g2 (Ev.bind g2' ?_)
    cases o with
    | false => simp only [Bool.false_eq_true, if_false]; exact Ev.now _
    | true =>
      have : o' = false := by rcases ho with h | h; cases h; exact h
      subst this
      simp only [if_true, Bool.false_eq_true, if_false]; exact Ev.now _


/-- The least number greater than 0, or 0 without one. -/
structure Least (t r : List Bool) (m : Nat) : Prop where
  cases : (m = 0 ∧ ∀ z, 1 ≤ z → hasB t r z = false) ∨ (1 ≤ m ∧ m ≤ t.length + r.length ∧ hasB t r m = true ∧ ∀ z, 1 ≤ z → z < m → hasB t r z = false)
theorem Least.unique {t r : List Bool} {m m' : Nat} (h : Least t r m) (k : Least t r m') : m = m' := by
  rcases h.cases with ⟨h1, h2⟩ | ⟨h1, h2, h3, h4⟩
  · rcases k.cases with ⟨k1, k2⟩ | ⟨k1, k2, k3, k4⟩
    · omega
    · rw [h2 m' k1] at k3; cases k3
  · rcases k.cases with ⟨k1, k2⟩ | ⟨k1, k2, k3, k4⟩
    · rw [k2 m h1] at h3; cases h3
    · rcases Nat.lt_trichotomy m m' with c | c | c
      · rw [k4 m h1 c] at h3; cases h3
      · exact c
      · rw [h4 m' k1 c] at k3; cases k3
theorem least_impl_l0 {t r : List Bool} (h : Good t r) (d : Nat) : ∀ i, i + d = t.length + r.length + 1 → 1 ≤ i → (∀ z, 1 ≤ z → z < i → hasB t r z = false) → ∃ m, Least t r m ∧ Ev (fun k => impl_set_least.l0 k (i : Nat) t r) ((m : Nat) : Int) := by
  have h2 := h.tl
  have h3 := h.rl
  have hw : wrap64 ((t.length : Int) + (r.length : Int)) = ((t.length + r.length : Nat) : Int) := by rw [wr (by omega) (by omega)]; omega
  induction d with
  | zero =>
    intro i hi h1 hno
    refine ⟨0, ⟨.inl ⟨rfl, none_far h.pos fun z z1 z2 => hno z z1 (by omega)⟩⟩, Ev.end fun k => ?_⟩
    simp only [impl_set_least.l0, hw]
    rw [if_neg (by omega)]
    rfl
  | succ d ih =>
    intro i hi h1 hno
    cases c : hasB t r i with
    | true =>
      refine ⟨i, ⟨.inr ⟨h1, by omega, c, hno⟩⟩, Ev.end fun k => ?_⟩
      simp only [impl_set_least.l0, hw]
      rw [if_pos (by omega), set_has h i (by omega), c]
      rfl
    | false =>
      obtain ⟨m, m1, m2⟩ := ih (i + 1) (by omega) (by omega) (fun z z1 z2 => by
        rcases Nat.lt_or_ge z i with e | e
        · exact hno z z1 e
        · obtain rfl : z = i := by omega
          exact c)
      refine ⟨m, m1, Ev.step (fun k => ?_) m2⟩
      simp only [impl_set_least.l0, hw]
      rw [if_pos (by omega), set_has h i (by omega), c]
      simp only [Option.bind_some, Bool.false_eq_true, if_false]
      rw [wr1 (by omega)]
theorem least_spec_l0 {t r : List Bool} (h : Good t r) (hs : t.length + r.length ≤ 20) (d : Nat) : ∀ i, i + d = 21 → 1 ≤ i → (∀ z, 1 ≤ z → z < i → hasB t r z = false) → ∃ m, Least t r m ∧ Ev (fun k => spec_l4Least.l0 k (i : Nat) t r) ((m : Nat) : Int) := by
  induction d with
  | zero =>
    intro i hi h1 hno
    refine ⟨0, ⟨.inl ⟨rfl, none_far h.pos fun z z1 z2 => hno z z1 (by omega)⟩⟩, Ev.end fun k => ?_⟩
    simp only [spec_l4Least.l0]
    rw [if_neg (by omega)]
    rfl
  | succ d ih =>
    intro i hi h1 hno
    cases c : hasB t r i with
    | true =>
      refine ⟨i, ⟨.inr ⟨h1, ?_, c, hno⟩⟩, Ev.end fun k => ?_⟩
      · rcases Nat.lt_or_ge (t.length + r.length) i with e | e
        · rw [none_far h.pos (fun z z1 z2 => hno z z1 (by omega)) i h1] at c; cases c
        · exact e
      · simp only [spec_l4Least.l0]
        rw [if_pos (by omega), l1_has h i (by omega), c]
        rfl
    | false =>
      obtain ⟨m, m1, m2⟩ := ih (i + 1) (by omega) (by omega) (fun z z1 z2 => by
        rcases Nat.lt_or_ge z i with e | e
        · exact hno z z1 e
        · obtain rfl : z = i := by omega
          exact c)
      refine ⟨m, m1, Ev.step (fun k => ?_) m2⟩
      simp only [spec_l4Least.l0]
      rw [if_pos (by omega), l1_has h i (by omega), c]
      simp only [Option.bind_some, Bool.false_eq_true, if_false]
      rw [wr1 (by omega)]
theorem least_both {t r : List Bool} (h : Good t r) (hs : t.length + r.length ≤ 20) : ∃ m, Least t r m ∧ Ev (fun k => impl_set_least.f k t r) ((m : Nat) : Int) ∧ Ev (fun k => spec_l4Least.f k t r) ((m : Nat) : Int) := by
  obtain ⟨m, a1, a2⟩ := least_impl_l0 h (t.length + r.length) 1 (by omega) (by omega) (fun z z1 z2 => by omega)
  obtain ⟨m', b1, b2⟩ := least_spec_l0 h hs 20 1 (by omega) (by omega) (fun z z1 z2 => by omega)
  obtain rfl := a1.unique b1
  exact ⟨m, a1, a2, b2⟩

structure Parts (f : Nat → Bool) (ps : List Nat) (x : Nat) : Prop where
  all : ∀ q ∈ ps, 1 ≤ q ∧ q < x ∧ f q = true
  some : ∀ y, 1 ≤ y → y < x → f y = true → ∃ q ∈ ps, q ≤ y ∧ star f (y - q) = true
  few : ps.length ≤ x
theorem parts_star {f : Nat → Bool} {ps : List Nat} {x : Nat} (h : Parts f ps x) (hx : 1 ≤ x) : star f x = true ↔ (∃ q ∈ ps, star f (x - q) = true) ∨ f x = true := by
  constructor
  · intro hs
    obtain ⟨y, a, b, c, d⟩ := (star_iff f hx).1 hs
    rcases Nat.lt_or_ge y x with e | e
    · obtain ⟨q, q1, q2, q3⟩ := h.some y a e c
      refine .inl ⟨q, q1, ?_⟩
      have := star_add (y - q) (x - y) q3 d
      rwa [show y - q + (x - y) = x - q from by omega] at this
    · obtain rfl : y = x := by omega
      exact .inr c
  · rintro (⟨q, q1, q2⟩ | hf)
    · obtain ⟨a, b, c⟩ := h.all q q1
      exact (star_iff f hx).2 ⟨q, a, by omega, c, q2⟩
    · exact (star_iff f hx).2 ⟨x, hx, Nat.le_refl _, hf, by rw [Nat.sub_self]; exact star_zero f⟩
theorem rd_cast (ps : List Nat) (i : Nat) (h : i < ps.length) : rd (ps.map fun y : Nat => (y : Int)) (i : Int) = ((ps[i] : Nat) : Int) := by
  simp [rd, List.getD, h]
theorem star4_l1 {t r : List Bool} (N x : Nat) (hN : N ≤ 1000000) (hx : x < N) (ps : List Nat) (hps : Parts (hasB t r) ps x) (Q : List Bool → Prop)
    (hend : ∀ l, l.length = N → (∀ j, j < x → l.getD j false = star (hasB t r) j) → (∀ j, x < j → l.getD j false = false) → (l.getD x false = true ↔ ∃ q ∈ ps, star (hasB t r) (x - q) = true) → ∃ l', Ev (fun k => spec_l4Star.j2 k N l (ps.map fun y : Nat => (y : Int)) x t r) l' ∧ Q l') (d : Nat) :
    ∀ (i : Nat) (l : List Bool), i + d = ps.length → l.length = N → (∀ j, j < x → l.getD j false = star (hasB t r) j) → (∀ j, x < j → l.getD j false = false) → (l.getD x false = true → ∃ q ∈ ps, star (hasB t r) (x - q) = true) → (l.getD x false = false → ∀ j, j < i → ∀ h : j < ps.length, star (hasB t r) (x - ps[j]) = false) →
      ∃ l', Ev (fun k => spec_l4Star.l1 k N l (ps.map fun y : Nat => (y : Int)) x (i : Nat) t r) l' ∧ Q l' := by
  have fin : ∀ l : List Bool, l.length = N → (∀ j, j < x → l.getD j false = star (hasB t r) j) → (∀ j, x < j → l.getD j false = false) → (l.getD x false = true ↔ ∃ q ∈ ps, star (hasB t r) (x - q) = true) → ∀ i : Nat, (i < ps.length → l.getD x false = true) → ∃ l', Ev (fun k => spec_l4Star.l1 k N l (ps.map fun y : Nat => (y : Int)) x (i : Nat) t r) l' ∧ Q l' := by
    intro l h1 h2 h3 h4 i hi
    obtain ⟨l', k1, k2⟩ := hend l h1 h2 h3 h4
    refine ⟨l', Ev.step (fun k => ?_) k1, k2⟩
    simp only [spec_l4Star.l1, List.length_map]
    by_cases c : i < ps.length
    · rw [if_pos (by omega), if_pos (by omega), if_pos (by omega), rdOf_nat, hi c, if_pos rfl]
    · rw [if_neg (by omega)]
  induction d with
  | zero =>
    intro i l hi h1 h2 h3 h4 h5
    refine fin l h1 h2 h3 ⟨h4, ?_⟩ i (fun h => by omega)
    rintro ⟨q, q1, q2⟩
    cases c : l.getD x false with
    | true => rfl
    | false =>
      obtain ⟨j, hj, rfl⟩ := List.getElem_of_mem q1
      rw [h5 c j (by omega) hj] at q2; cases q2
  | succ d ih =>
    intro i l hi h1 h2 h3 h4 h5
    cases c : l.getD x false with
    | true => exact fin l h1 h2 h3 ⟨h4, fun _ => c⟩ i (fun _ => c)
    | false =>
      have hil : i < ps.length := by omega
      have hfew := hps.few
      obtain ⟨a1, a2, a3⟩ := hps.all ps[i] (List.getElem_mem hil)
      have hw : wrap64 ((x : Int) - ((ps[i] : Nat) : Int)) = ((x - ps[i] : Nat) : Int) := wrs (by omega) (by omega)
      have hv := h2 (x - ps[i]) (by omega)
      obtain ⟨l', k1, k2⟩ := ih (i + 1) (l.set x (star (hasB t r) (x - ps[i]))) (by omega) (by rw [List.length_set, h1]) (fun j hj => by rw [getD_set_ne _ _ (by omega)]; exact h2 j hj) (fun j hj => by rw [getD_set_ne _ _ (by omega)]; exact h3 j hj)
        (by rw [getD_set_self _ _ _ (by omega)]; intro h; exact ⟨ps[i], List.getElem_mem hil, h⟩)
        (by
          rw [getD_set_self _ _ _ (by omega)]
          intro h j hj hjl
          rcases Nat.lt_or_ge j i with e | e
          · exact h5 c j e hjl
          · obtain rfl : j = i := by omega
            exact h)
      refine ⟨l', Ev.step (fun k => ?_) k1, k2⟩
      simp only [spec_l4Star.l1, List.length_map]
      rw [if_pos (by omega), if_pos (by omega), if_pos (by omega), rdOf_nat, c, if_neg (by simp), if_pos (by omega), rd_cast ps i hil, hw, if_pos (by omega), if_pos (by omega), rdOf_nat, hv, wr1 (by omega), Int.toNat_natCast]
theorem star4_l0 {t r : List Bool} (h : Good t r) (N : Nat) (hN : N ≤ 1000000) (d : Nat) : ∀ (x : Nat) (l : List Bool) (ps : List Nat), x + d = N → l.length = N → (∀ j, j < x → l.getD j false = star (hasB t r) j) → (∀ j, x ≤ j → l.getD j false = false) → Parts (hasB t r) ps x →
    ∃ l', Ev (fun k => spec_l4Star.l0 k N l (ps.map fun y : Nat => (y : Int)) (x : Nat) t r) l' ∧ Tells l' (star (hasB t r)) N := by
  induction d with
  | zero =>
    intro x l ps hx h1 h2 h3 h4
    refine ⟨l, Ev.end fun k => ?_, h1, fun j hj => h2 j (by omega)⟩
    simp only [spec_l4Star.l0]
    rw [if_neg (by omega)]
  | succ d ih =>
    intro x l ps hx h1 h2 h3 h4
    have hfew := h4.few
    have go := star4_l1 (t := t) (r := r) N x hN (by omega) ps h4 (fun l' => Tells l' (star (hasB t r)) N) ?_ ps.length 0 l (by omega) h1 h2 (fun j hj => h3 j (by omega)) (by rw [h3 x (Nat.le_refl _)]; intro e; cases e) (fun _ j hj => by omega)
    · obtain ⟨l', k1, k2⟩ := go
      refine ⟨l', Ev.step (fun k => ?_) k1, k2⟩
      simp only [spec_l4Star.l0]
      rw [if_pos (by omega)]
      rfl
    · intro m g1 g2 g3 g4
      rcases Nat.eq_zero_or_pos x with e0 | e0
      · subst e0
        obtain ⟨l', k1, k2⟩ := ih 1 (m.set 0 true) ps (by omega) (by rw [List.length_set, g1]) (fun j hj => by
            obtain rfl : j = 0 := by omega
            rw [getD_set_self _ _ _ (by omega)]; exact (star_zero _).symm) (fun j hj => by rw [getD_set_ne _ _ (by omega)]; exact g3 j (by omega))
          ⟨fun q hq => by have := h4.all q hq; omega, fun y y1 y2 => by omega, by omega⟩
        refine ⟨l', Ev.step (fun k => ?_) k1, k2⟩
        simp only [spec_l4Star.j2]
        rw [if_pos (by omega), if_pos (by omega), wr1 (by omega)]
        rfl
      · have hps := parts_star h4 e0
        cases c : m.getD x false with
        | true =>
          have hs : star (hasB t r) x = true := hps.2 (.inl (g4.1 c))
          obtain ⟨l', k1, k2⟩ := ih (x + 1) m ps (by omega) g1 (fun j hj => by
              rcases Nat.lt_or_ge j x with e | e
              · exact g2 j e
              · obtain rfl : j = x := by omega
                rw [c, hs]) (fun j hj => g3 j (by omega))
            ⟨fun q hq => by have := h4.all q hq; exact ⟨this.1, by omega, this.2.2⟩, fun y y1 y2 y3 => by
              rcases Nat.lt_or_ge y x with e | e
              · exact h4.some y y1 e y3
              · obtain rfl : y = x := by omega
                obtain ⟨q, q1, q2⟩ := g4.1 c
                exact ⟨q, q1, by have := h4.all q q1; omega, q2⟩, by omega⟩
          refine ⟨l', Ev.step (fun k => ?_) k1, k2⟩
          simp only [spec_l4Star.j2]
          rw [if_neg (by omega), if_pos (by omega), if_pos (by omega), rdOf_nat, c, if_pos rfl, wr1 (by omega)]
        | false =>
          have hno : ¬ ∃ q ∈ ps, star (hasB t r) (x - q) = true := fun k => by rw [g4.2 k] at c; cases c
          cases cf : hasB t r x with
          | true =>
            have hs : star (hasB t r) x = true := hps.2 (.inr cf)
            obtain ⟨l', k1, k2⟩ := ih (x + 1) (m.set x true) (ps ++ [x]) (by omega) (by rw [List.length_set, g1]) (fun j hj => by
                rcases Nat.lt_or_ge j x with e | e
                · rw [getD_set_ne _ _ (by omega)]; exact g2 j e
                · obtain rfl : j = x := by omega
                  rw [getD_set_self _ _ _ (by omega), hs]) (fun j hj => by rw [getD_set_ne _ _ (by omega)]; exact g3 j (by omega))
              ⟨fun q hq => by
                rcases List.mem_append.1 hq with k | k
                · have := h4.all q k; exact ⟨this.1, by omega, this.2.2⟩
                · obtain rfl : q = x := by simpa using k
                  exact ⟨e0, by omega, cf⟩, fun y y1 y2 y3 => by
                rcases Nat.lt_or_ge y x with e | e
                · obtain ⟨q, q1, q2⟩ := h4.some y y1 e y3
                  exact ⟨q, List.mem_append_left _ q1, q2⟩
                · obtain rfl : y = x := by omega
                  exact ⟨y, List.mem_append_right _ (by simp), Nat.le_refl _, by rw [Nat.sub_self]; exact star_zero _⟩, by rw [List.length_append]; simp; omega⟩
            refine ⟨l', Ev.step (fun k => ?_) k1, k2⟩
            simp only [spec_l4Star.j2]
            rw [if_neg (by omega), if_pos (by omega), if_pos (by omega), rdOf_nat, c, if_neg (by simp), l1_has h x (by omega), cf]
            simp only [Option.bind_some, if_true, List.length_map]
            rw [if_pos (by omega), wr1 (by omega), Int.toNat_natCast, List.map_append]
            rfl
          | false =>
            have hs : star (hasB t r) x = false := by
              cases e : star (hasB t r) x with
              | false => rfl
              | true =>
                rcases hps.1 e with k | k
                · exact absurd k hno
                · rw [cf] at k; cases k
            obtain ⟨l', k1, k2⟩ := ih (x + 1) m ps (by omega) g1 (fun j hj => by
                rcases Nat.lt_or_ge j x with e | e
                · exact g2 j e
                · obtain rfl : j = x := by omega
                  rw [c, hs]) (fun j hj => g3 j (by omega))
              ⟨fun q hq => by have := h4.all q hq; exact ⟨this.1, by omega, this.2.2⟩, (fun y y1 y2 y3 => by
                rcases Nat.lt_or_ge y x with e | e
                · exact h4.some y y1 e y3
                · obtain rfl : y = x := by omega
                  rw [cf] at y3; cases y3), by omega⟩
            refine ⟨l', Ev.step (fun k => ?_) k1, k2⟩
            simp only [spec_l4Star.j2]
            rw [if_neg (by omega), if_pos (by omega), if_pos (by omega), rdOf_nat, c, if_neg (by simp), l1_has h x (by omega), cf]
            simp only [Option.bind_some, Bool.false_eq_true, if_false]
            rw [wr1 (by omega)]
theorem star4_ev {t r : List Bool} (h : Good t r) (N : Nat) (hN : N ≤ 1000000) : ∃ l, Ev (fun k => spec_l4Star.f k t r N) l ∧ Tells l (star (hasB t r)) N := by
  obtain ⟨l, k1, k2⟩ := star4_l0 h N hN N 0 (List.replicate N false) [] (by omega) (by simp) (fun j hj => by omega) (fun j _ => by
      simp only [List.getD, List.getElem?_replicate]
      split <;> rfl) ⟨(fun q hq => by cases hq), (fun y y1 y2 => by omega), by simp⟩
  refine ⟨l, ?_, k2⟩
  unfold spec_l4Star.f
  refine Ev.eq (funext fun k => if_pos (by omega)) (Ev.eq (funext fun k => if_pos (by omega)) ?_)
  rw [Int.toNat_natCast]
  exact k1

/-- The star, with what is told of 0. -/
def starZ (f : Nat → Bool) (z : Bool) (n : Nat) : Bool := if n = 0 then z else star f n
theorem starZ_true (f : Nat → Bool) (n : Nat) : starZ f true n = star f n := by
  unfold starZ
  split
  · subst_vars; exact (star_zero f).symm
  · rfl
theorem starZ_pos {f : Nat → Bool} {z : Bool} {n : Nat} (h : 1 ≤ n) : starZ f z n = star f n := by unfold starZ; rw [if_neg (by omega)]
theorem starred_p {t r l : List Bool} {z : List Bool → List Bool → Option Bool} {b : Bool} (hz : z t r = some b) {N : Nat} (hl : Tells l (star (hasB t r)) N) (n : Nat) (hn : n < N) : impl_starred.p z t r l n = some (starZ (hasB t r) b n) := by
  unfold impl_starred.p starZ
  by_cases c : n = 0
  · subst c
    rw [if_pos (show ((0 : Nat) : Int) = 0 from rfl), hz]
    rfl
  · rw [if_neg (by omega), if_neg c, if_pos (by omega), if_pos (by rw [hl.len]; omega), rdOf_nat, hl.get n hn]
theorem starred_ev {s : ByteArray} {t r : List Bool} (h : IsSmall s t r) {z : List Bool → List Bool → Option Bool} {b : Bool} (hz : z t r = some b) : ∃ x, Ev (fun k => impl_starred.f k s z) x ∧ Told (starZ (hasB t r) b) x := by
  have t1 := h.tl
  have r1 := h.rl
  obtain ⟨m, m1, m2, _⟩ := least_both h.good (by omega)
  have main : ∀ q : Nat, 1 ≤ q → q ≤ 16 → (∀ n, 1000 ≤ n → starZ (hasB t r) b (n + q) = starZ (hasB t r) b n) → ∃ x, Ev (fun k => impl_starred.g k t r z (q : Int)) x ∧ Told (starZ (hasB t r) b) x := by
    intro q q1 q2 hper
    obtain ⟨l, l1, l2⟩ := star_ev h.good (1000 + q) (by omega)
    obtain ⟨x, x1, x2⟩ := made_ev (f := starZ (hasB t r) b) (from_ := 1000) (size := q) q1 ⟨by omega, by omega⟩ hper (P := fun _ => impl_starred.p z t r l) (fun n hn => by
      have := starred_p hz l2 n hn
      exact Ev.const fun _ => this)
    refine ⟨x, ?_, x2⟩
    unfold impl_starred.g
    have e : (1000 + (q : Int)) = ((1000 + q : Nat) : Int) := by omega
    rw [e]
    exact Ev.bind l1 x1
  rcases m1.cases with ⟨c1, c2⟩ | ⟨c1, c2, c3, c4⟩
  · subst c1
    obtain ⟨x, x1, x2⟩ := main 1 (by omega) (by omega) (fun n hn => by
      rw [starZ_pos (by omega), starZ_pos (by omega), star_none c2, star_none c2, decide_eq_false (by omega), decide_eq_false (by omega)])
    refine ⟨x, ?_, x2⟩
    unfold impl_starred.f
    refine Ev.bind h.impl ?_
    simp only [if_true]
    refine Ev.bind m2 (Ev.eq (funext fun k => if_neg (by omega)) ?_)
    exact x1
  · obtain ⟨x, x1, x2⟩ := main m c1 (by omega) (fun n hn => by
      rw [starZ_pos (by omega), starZ_pos (by omega)]; exact star_period h.good.pos t1 r1 c1 c4 c3 c2 hn)
    refine ⟨x, ?_, x2⟩
    unfold impl_starred.f
    refine Ev.bind h.impl ?_
    simp only [if_true]
    refine Ev.bind m2 (Ev.eq (funext fun k => if_pos (by omega)) (Ev.eq (funext fun k => if_pos (by omega)) ?_))
    exact x1
theorem canon_one : Canon [true] [false] := ⟨by decide, fun d h1 h2 => by simp at h2; omega, fun m hm => by
  obtain rfl : m = 0 := by simpa using hm.symm
  decide⟩
theorem has_one (n : Nat) : hasB [true] [false] n = decide (n = 0) := by
  rcases Nat.eq_zero_or_pos n with h | h
  · subst h; rfl
  · rw [hasB_ge (by show 1 ≤ n; omega), decide_eq_false (by omega)]
    simp [Nat.mod_one]
theorem text_one : text [true] [false] = (⟨#[49, 40, 48, 41]⟩ : ByteArray) := rfl
theorem told_one : Told (fun n => decide (n = 0)) ((⟨#[49, 40, 48, 41]⟩ : ByteArray), true) := by
  rw [← text_one]
  exact Told.of canon_one ⟨by decide, by decide, by decide⟩ has_one
theorem starOf_both {s : ByteArray} {t r : List Bool} (h : IsSmall s t r) : ∃ x, Ev (fun k => impl_StarOf.f k s) x ∧ Ev (fun k => spec_StarOf.f k s) x ∧ Told (star (hasB t r)) x := by
  obtain ⟨x, x1, x2⟩ := starred_ev h (z := fun _ _ => some true) (b := true) rfl
  have x3 : Told (star (hasB t r)) x := x2.congr (starZ_true _)
  refine ⟨x, x1, ?_, x3⟩
  have t1 := h.tl
  have r1 := h.rl
  obtain ⟨m, m1, _, m2⟩ := least_both h.good (by omega)
  unfold spec_StarOf.f
  refine Ev.bind h.spec ?_
  simp only [if_true]
  refine Ev.bind (f := fun k (b : ByteArray × Bool) => some (b.1, b.2)) (a := x) ?_ (Ev.now x)
  unfold spec_l4Whole.f
  rcases m1.cases with ⟨c1, c2⟩ | ⟨c1, c2, c3, c4⟩
  · subst c1
    refine Ev.bind m2 (Ev.eq (funext fun k => if_pos rfl) ?_)
    rw [x3.unique (told_one.congr fun n => (star_none c2 n).symm)]
    exact Ev.now _
  · refine Ev.bind m2 (Ev.eq (funext fun k => if_neg (by omega)) ?_)
    obtain ⟨l, l1, l2⟩ := star4_ev h.good (2400 + m) (by omega)
    obtain ⟨y, y1, y2⟩ := fill_tells l2 (m := 2400) (by omega) (by omega) (fun n hn => by
      rw [Nat.add_sub_cancel_left]; exact star_period h.good.pos t1 r1 c1 c4 c3 c2 (by omega))
    rw [wr (x := 2400 + (m : Int)) (by omega) (by omega), show (2400 + (m : Int)) = ((2400 + m : Nat) : Int) from by omega, x3.unique y2]
    exact Ev.bind l1 (Ev.bind y1 (Ev.now y))

abbrev empt : ByteArray × Bool := ((⟨#[]⟩ : ByteArray), false)

theorem tidied_self {t r : List Bool} (h : Canon t r) (g : Good t r) : Tidied t r t r := by
  obtain ⟨t', r', hT⟩ := tidied g
  obtain ⟨rfl, rfl⟩ := canon_unique hT.canon h hT.same
  exact hT
theorem small_dec {s : ByteArray} {t0 r0 t r : List Bool} (h : IsSet s t0 r0) (hT : Tidied t0 r0 t r) : NoSmall s ∨ IsSmall s t r := by
  have hi : Ev (fun k => impl_small.f k s) (t, r, decide ((t.length : Int) ≤ 8) && decide ((r.length : Int) ≤ 8)) := by
    unfold impl_small.f impl_tidied.f
    rw [h.impl]; simp only [Option.bind_some, if_true]
    refine Ev.bind (a := (t, r, true)) (Ev.bind hT.impl (Ev.now _)) (Ev.const fun k => ?_)
    rw [if_pos rfl]
    by_cases c : (t.length : Int) ≤ 8
    · rw [if_pos c, decide_eq_true c]; rfl
    · rw [if_neg c, decide_eq_false c]; rfl
  have hs : Ev (fun k => spec_l4Small.f k s) (t, r, decide ((t.length : Int) ≤ 8) && decide ((r.length : Int) ≤ 8)) := by
    unfold spec_l4Small.f
    refine Ev.bind h.spec ?_
    simp only [if_true]
    refine Ev.bind hT.spec (Ev.const fun k => ?_)
    by_cases c : (t.length : Int) ≤ 8
    · rw [if_pos c, decide_eq_true c]; rfl
    · rw [if_neg c, decide_eq_false c]; rfl
  by_cases c : t.length ≤ 8 ∧ r.length ≤ 8
  · right
    rw [decide_eq_true (by omega), decide_eq_true (by omega)] at hi hs
    exact ⟨⟨t0, r0, h, hT⟩, hT.good, c.1, c.2, hi, hs⟩
  · left
    have : (decide ((t.length : Int) ≤ 8) && decide ((r.length : Int) ≤ 8)) = false := by
      by_cases c1 : t.length ≤ 8
      · rw [decide_eq_false (show ¬ (r.length : Int) ≤ 8 by omega), Bool.and_false]
      · rw [decide_eq_false (show ¬ (t.length : Int) ≤ 8 by omega), Bool.false_and]
    rw [this] at hi hs
    exact ⟨⟨t, r, hi⟩, ⟨t, r, hs⟩⟩
theorem text_small {t r : List Bool} (h : Canon t r) (g : Good t r) : NoSmall (text t r) ∨ IsSmall (text t r) t r := small_dec (text_isSet g) (tidied_self h g)
theorem setTidy_ev {s : ByteArray} {t0 r0 t r : List Bool} (h : IsSet s t0 r0) (hT : Tidied t0 r0 t r) : Ev (fun k => impl_SetTidy.f k s) (text t r, true) := by
  unfold impl_SetTidy.f impl_tidied.f
  rw [h.impl]; simp only [Option.bind_some, if_true]
  refine Ev.bind (a := (t, r, true)) (Ev.bind hT.impl (Ev.now _)) ?_
  simp only [if_true]
  exact Ev.bind (text_ev hT.good.tl hT.good.rl) (Ev.now _)
theorem setSame_ev {s u : ByteArray} {t r t2 r2 : List Bool} (h : IsSet s t r) (h2 : IsSet u t2 r2) (e : ∀ n, hasB t r n = hasB t2 r2 n) : Ev (fun k => impl_SetSame.f k s u) true := by
  obtain ⟨a, b, hT⟩ := tidied h.good
  obtain ⟨a2, b2, hT2⟩ := tidied h2.good
  obtain ⟨rfl, rfl⟩ := canon_unique hT.canon hT2.canon (fun n => by rw [hT.same, hT2.same, e])
  unfold impl_SetSame.f
  refine Ev.bind (setTidy_ev h hT) (Ev.bind (setTidy_ev h2 hT2) (Ev.const fun k => ?_))
  simp
theorem star_fun {ta ra t r : List Bool} (e : ∀ n, hasB t r n = star (hasB ta ra) n) : hasB t r = star (hasB ta ra) := funext e
/-- The least set: told, or nothing is told. -/
theorem solveLeast_both {s u : ByteArray} {ta ra tb rb : List Bool} (h : IsSmall s ta ra) (h2 : IsSmall u tb rb) : ∃ y, Ev (fun k => impl_SolveLeast.f k s u) y ∧ Ev (fun k => spec_SolveLeast.f k s u) y ∧ (y = empt ∨ Told (lst (hasB ta ra) (hasB tb rb)) y) := by
  obtain ⟨x, x1, x2, x3⟩ := starOf_both h
  have mk : ∀ y, (x.2 = false → y = empt) → (x.2 = true → Ev (fun k => impl_SumOf.f k x.1 u) y ∧ Ev (fun k => spec_SumOf.f k x.1 u) y) → Ev (fun k => impl_SolveLeast.f k s u) y ∧ Ev (fun k => spec_SolveLeast.f k s u) y := by
    intro y y1 y2
    constructor
    · unfold impl_SolveLeast.f
      refine Ev.bind (two_yes h h2) ?_
      simp only [if_true]
      refine Ev.bind x1 ?_
      cases c : x.2 with
      | false => simp only [Bool.false_eq_true, if_false]; rw [y1 c]; exact Ev.now _
      | true => simp only [if_true]; exact Ev.bind (y2 c).1 (Ev.now y)
    · unfold spec_SolveLeast.f
      refine Ev.bind h.spec (Ev.bind h2.spec ?_)
      simp only [if_true]
      refine Ev.step (f := fun k => (spec_StarOf.f k s).bind fun b => if b.2 = true then (spec_SumOf.f k b.1 u).bind fun c => some (c.1, c.2) else some empt) (fun k => by simp only [spec_SolveLeast.j0, Bool.not_true, Bool.false_eq_true, if_false]) ?_
      refine Ev.bind x2 ?_
      cases c : x.2 with
      | false => simp only [Bool.false_eq_true, if_false]; rw [y1 c]; exact Ev.now _
      | true => simp only [if_true]; exact Ev.bind (y2 c).2 (Ev.now y)
  cases c : x.2 with
  | false =>
    obtain ⟨a, b⟩ := mk empt (fun _ => rfl) (fun h => by rw [c] at h; cases h)
    exact ⟨empt, a, b, .inl rfl⟩
  | true =>
    obtain ⟨t, r, g1, g2, g3, rfl⟩ := x3.yes c
    rcases text_small g1 g2 with k | k
    · obtain ⟨e1, e2⟩ := sumOf_no (.inl k) (.inr ⟨tb, rb, h2⟩) (.inl k)
      obtain ⟨a, b⟩ := mk empt (fun h => by cases h) (fun _ => ⟨e1, e2⟩)
      exact ⟨empt, a, b, .inl rfl⟩
    · obtain ⟨y, y1, y2, y3⟩ := sumOf_both k h2
      obtain ⟨a, b⟩ := mk y (fun h => by cases h) (fun _ => ⟨y1, y2⟩)
      rw [star_fun g3] at y3
      exact ⟨y, a, b, .inr y3⟩
theorem two_spec_no {s u : ByteArray} (hs : NoSmall s ∨ ∃ t r, IsSmall s t r) (hu : NoSmall u ∨ ∃ t r, IsSmall u t r) (h : NoSmall s ∨ NoSmall u) : ∃ a b o c d o', Ev (fun k => spec_l4Small.f k s) (a, b, o) ∧ Ev (fun k => spec_l4Small.f k u) (c, d, o') ∧ (o = false ∨ o' = false) := by
  have any : ∀ w : ByteArray, (NoSmall w ∨ ∃ t r, IsSmall w t r) → ∃ c d ok, Ev (fun k => spec_l4Small.f k w) (c, d, ok) ∧ (NoSmall w → ok = false) := by
    rintro w (k | ⟨t, r, k⟩)
    · obtain ⟨_, ⟨c, d, e2⟩⟩ := k
      exact ⟨c, d, false, e2, fun _ => rfl⟩
    · refine ⟨t, r, true, k.spec, fun k2 => ?_⟩
      obtain ⟨_, ⟨a, b, e1⟩⟩ := k2
      have := Ev.unique k.spec e1
      simp only [Prod.mk.injEq] at this
      exact absurd this.2.2 (by simp)
  obtain ⟨a, b, o, g1, g2⟩ := any s hs
  obtain ⟨c, d, o', k1, k2⟩ := any u hu
  exact ⟨a, b, o, c, d, o', g1, k1, h.elim (fun k => .inl (g2 k)) (fun k => .inr (k2 k))⟩
theorem text_all : text [] [true] = (⟨#[40, 49, 41]⟩ : ByteArray) := rfl
theorem set_all : IsSet (⟨#[40, 49, 41]⟩ : ByteArray) [] [true] := by
  rw [← text_all]; exact text_isSet ⟨by decide, by decide, by decide⟩
theorem solveMost_both {s u : ByteArray} {ta ra tb rb : List Bool} (h : IsSmall s ta ra) (h2 : IsSmall u tb rb) {y : ByteArray × Bool} (y1 : Ev (fun k => impl_SolveLeast.f k s u) y) (y2 : Ev (fun k => spec_SolveLeast.f k s u) y) :
    Ev (fun k => impl_SolveMost.f k s u) (if hasB ta ra 0 = true then ((⟨#[40, 49, 41]⟩ : ByteArray), true) else y) ∧ Ev (fun k => spec_SolveMost.f k s u) (if hasB ta ra 0 = true then ((⟨#[40, 49, 41]⟩ : ByteArray), true) else y) := by
  have e1 := set_has h.good 0 (by omega)
  have e2 := l1_has h.good 0 (by omega)
  constructor
  · unfold impl_SolveMost.f
    refine Ev.bind (two_yes h h2) ?_
    simp only [if_true]
    refine Ev.bind (a := hasB ta ra 0) (Ev.const fun _ => e1) ?_
    cases c : hasB ta ra 0 with
    | true => simp only [if_true]; exact Ev.now _
    | false => simp only [Bool.false_eq_true, if_false]; exact Ev.bind y1 (Ev.now y)
  · unfold spec_SolveMost.f
    refine Ev.bind h.spec (Ev.bind h2.spec ?_)
    simp only [if_true]
    refine Ev.step (f := fun k => (spec_l1Has.f ta ra 0).bind fun t => if t = true then some ((⟨#[40, 49, 41]⟩ : ByteArray), true) else (spec_SolveLeast.f k s u).bind fun b => some (b.1, b.2)) (fun k => by simp only [spec_SolveMost.j0, Bool.not_true, Bool.false_eq_true, if_false]) ?_
    refine Ev.bind (a := hasB ta ra 0) (Ev.const fun _ => e2) ?_
    cases c : hasB ta ra 0 with
    | true => simp only [if_true]; exact Ev.now _
    | false => simp only [Bool.false_eq_true, if_false]; exact Ev.bind y2 (Ev.now y)
theorem solveMost_no {s u : ByteArray} (hs : NoSmall s ∨ ∃ t r, IsSmall s t r) (hu : NoSmall u ∨ ∃ t r, IsSmall u t r) (h : NoSmall s ∨ NoSmall u) : Ev (fun k => impl_SolveMost.f k s u) empt ∧ Ev (fun k => spec_SolveMost.f k s u) empt := by
  obtain ⟨a, b, c, d, e⟩ := two_no hs hu h
  obtain ⟨a2, b2, o, c2, d2, o', g1, g2, g3⟩ := two_spec_no hs hu h
  constructor
  · unfold impl_SolveMost.f
    refine Ev.bind e ?_
    simp only [Bool.false_eq_true, if_false]
    exact Ev.now _
  · unfold spec_SolveMost.f
    refine Ev.bind g1 (Ev.bind g2 ?_)
    have fin : ∀ x : Bool, x = true → Ev (fun k => spec_SolveMost.j0 k s u x a2 b2) empt := fun x hx => Ev.end fun k => by simp only [spec_SolveMost.j0]; rw [if_pos hx]
    cases o with
    | false => simp only [Bool.false_eq_true, if_false]; exact fin _ rfl
    | true => simp only [if_true]; exact fin _ (by rcases g3 with h | h; cases h; rw [h]; rfl)

end Go.Proofs.Ytpkpgdlbgcjloaa.Q

namespace Go.Proofs.Ytpkpgdlbgcjloaa.Q
open Go.RowKit Go.Proofs.YtpkpgdlbgcjloaaW.PrintWords Go.Proofs.YtpkpgdlbgcjloaaW.PrintLast Go.Proofs.YtpkpgdlbgcjloaaW.PrintMore
set_option linter.unusedVariables false
set_option linter.unusedSimpArgs false
structure Bs (bs : List Int) : Prop where
  len : bs.length ≤ 2000
  byte : ∀ x ∈ bs, 0 ≤ x ∧ x ≤ 255
theorem byte_wf {x : Int} (h : (Lit.int .u8 x).wf = true) : 0 ≤ x ∧ x ≤ 255 := by
  have h1 : IntKind.u8.min = 0 := rfl
  have h2 : IntKind.u8.max = 255 := rfl
  simp [Lit.wf] at h
  omega
theorem open_ev (l0 : List Int) (h : ∀ x ∈ l0, (Lit.int .u8 x).wf = true) : ∃ bs, Bs bs ∧ spec_l6Open.f l0 = some (bs, 0) := by
  unfold spec_l6Open.f
  by_cases c : (l0.length : Int) > 2000
  · refine ⟨l0.take 2000, ⟨List.length_take_le _ _, fun x hx => byte_wf (h x (List.mem_of_mem_take hx))⟩, ?_⟩
    rw [if_pos c, if_pos (by omega)]
  · exact ⟨l0, ⟨by omega, fun x hx => byte_wf (h x hx)⟩, by rw [if_neg c]⟩
theorem rd_byte {bs : List Int} (h : Bs bs) (i : Nat) : ∃ b : Nat, b ≤ 255 ∧ rd bs (i : Int) = b := by
  have hx : 0 ≤ rd bs (i : Int) ∧ rd bs (i : Int) ≤ 255 := by
    unfold rd
    rw [Int.toNat_natCast]
    by_cases c : i < bs.length
    · have : bs.getD i 0 = bs[i] := by simp [List.getD, c]
      rw [this]
      exact h.byte _ (List.getElem_mem c)
    · have : bs.getD i 0 = 0 := by simp [List.getD, List.getElem?_eq_none (show bs.length ≤ i by omega)]
      rw [this]; omega
  obtain ⟨b, hb⟩ := Int.eq_ofNat_of_zero_le hx.1
  exact ⟨b, by omega, hb⟩
theorem xor_nat (a b : Nat) (ha : a < 2 ^ 62) (hb : b < 2 ^ 62) : Go.bits .xor .i64 (a : Int) (b : Int) = ((a ^^^ b : Nat) : Int) := by
  have h64 : IntKind.i64.bits = 64 := rfl
  have ha' : a % 2 ^ 64 = a := Nat.mod_eq_of_lt (by omega)
  have hb' : b % 2 ^ 64 = b := Nat.mod_eq_of_lt (by omega)
  have hx : a ^^^ b < 2 ^ 62 := Nat.xor_lt_two_pow ha hb
  simp only [Go.bits, h64, BitVec.ofInt_natCast, BitVec.toNat_xor, BitVec.toNat_ofNat, ha', hb']
  rw [IntKind.wrap_i64]
  omega
theorem pick_ev {bs : List Int} (h : Bs bs) (p n : Nat) (hp : p ≤ 1000000) (hn : 1 ≤ n) (hn2 : n ≤ 1000000) : ∃ v : Nat, v < n ∧ Ev (fun k => spec_l6Rd_pick.f k bs p n) ((v : Int), ((p + 1 : Nat) : Int)) := by
  have hl := h.len
  have e1 : wrap64 (((p + 1 : Nat) : Int) - 1) = (p : Nat) := by rw [wr (by omega) (by omega)]; omega
  have pos : ∀ v : Nat, Ev (fun k => spec_l6Rd_pick.j0 k n ((bs.length : Int) == 0) bs ((p + 1 : Nat) : Int)) ((v : Int), ((p + 1 : Nat) : Int)) → Ev (fun k => spec_l6Rd_pick.f k bs p n) ((v : Int), ((p + 1 : Nat) : Int)) := by
    intro v hv
    refine Ev.congr (fun k => ?_) hv
    unfold spec_l6Rd_pick.f
    rw [if_neg (by omega), wr1 (by omega)]
  by_cases c0 : bs.length = 0
  · refine ⟨0, by omega, pos 0 (Ev.end fun k => ?_)⟩
    simp only [spec_l6Rd_pick.j0]
    rw [if_pos (by rw [c0]; rfl)]
    rfl
  · have hne : ¬ (((bs.length : Int) == 0) = true) := by simp; intro h; exact c0 (by simp [h])
    by_cases c : p < bs.length
    · obtain ⟨b, hb, eb⟩ := rd_byte h p
      refine ⟨b % n, Nat.mod_lt _ (by omega), pos _ (Ev.end fun k => ?_)⟩
      simp only [spec_l6Rd_pick.j0]
      rw [if_neg hne, e1, if_pos (by omega), if_pos (by omega), if_neg (by omega), eb, wr (by omega) (by omega), tmod_nat]
    · have hm1 := Nat.mod_lt p (show bs.length > 0 by omega)
      have hm2 := Nat.mod_lt (p * 7 + 3) (show bs.length > 0 by omega)
      obtain ⟨b1, hb1, eb1⟩ := rd_byte h (p % bs.length)
      obtain ⟨b2, hb2, eb2⟩ := rd_byte h ((p * 7 + 3) % bs.length)
      have hd := Nat.div_le_self p bs.length
      have hx : b1 * 131 + b2 * 1117 + p * 29 + p / bs.length * 53 ≤ 100000000 := by omega
      refine ⟨((b1 * 131 + b2 * 1117 + p * 29 + p / bs.length * 53) ^^^ ((b1 * 131 + b2 * 1117 + p * 29 + p / bs.length * 53) / 64)) % n, Nat.mod_lt _ (by omega), pos _ (Ev.end fun k => ?_)⟩
      simp only [spec_l6Rd_pick.j0]
      have e7 : wrap64 (wrap64 (((p : Nat) : Int) * 7) + 3) = ((p * 7 + 3 : Nat) : Int) := by rw [wr (x := (p : Int) * 7) (by omega) (by omega), wr (by omega) (by omega)]; omega
      rw [if_neg hne, e1, if_neg (by omega), if_neg (by omega), e7, tmod_nat, tmod_nat, if_pos (by omega), if_pos (by omega), if_pos (by omega), if_pos (by omega), if_neg (by omega), eb1, eb2, tdiv_nat]
      have hX : wrap64 (wrap64 (wrap64 (wrap64 (wrap64 (b1 : Int) * 131) + wrap64 (wrap64 (b2 : Int) * 1117)) + wrap64 ((p : Int) * 29)) + wrap64 (wrap64 ((p / bs.length : Nat) : Int) * 53)) = ((b1 * 131 + b2 * 1117 + p * 29 + p / bs.length * 53 : Nat) : Int) := by
        generalize p / bs.length = q at *
        rw [wr (x := (b1 : Int)) (by omega) (by omega), wr (x := (b2 : Int)) (by omega) (by omega), wr (x := (b1 : Int) * 131) (by omega) (by omega), wr (x := (b2 : Int) * 1117) (by omega) (by omega), wr (x := (p : Int) * 29) (by omega) (by omega), wr (x := (q : Int)) (by omega) (by omega), wr (x := (q : Int) * 53) (by omega) (by omega), wr (x := (b1 : Int) * 131 + (b2 : Int) * 1117) (by omega) (by omega), wr (x := (b1 : Int) * 131 + (b2 : Int) * 1117 + (p : Int) * 29) (by omega) (by omega), wr (by omega) (by omega)]
        omega
      rw [hX]
      generalize b1 * 131 + b2 * 1117 + p * 29 + p / bs.length * 53 = X at hx
      have hq : wrap64 (Int.tdiv (X : Int) 64) = ((X / 64 : Nat) : Int) := by
        rw [show (64 : Int) = ((64 : Nat) : Int) from rfl, tdiv_nat, wr (by omega) (by omega)]
      rw [hq, xor_nat _ _ (by omega) (by omega), tmod_nat]

theorem signs_draw_l0 {bs : List Int} (h : Bs bs) (c : Nat) : ∀ (acc : List Int) (p : Nat), p + c ≤ 1000000 → acc.length + c ≤ 1000000 →
    ∃ s : ByteArray, s.size = acc.length + c ∧ Ev (fun k => spec_l91Signs.l0 k acc c bs p) (s, ((p + c : Nat) : Int)) := by
  induction c with
  | zero =>
    intro acc p hp ha
    refine ⟨strOfNums acc, strOfNums_size acc, Ev.end fun k => ?_⟩
    simp only [spec_l91Signs.l0]
    rw [if_neg (by omega)]; rfl
  | succ c ih =>
    intro acc p hp ha
    obtain ⟨v, hv, e⟩ := pick_ev h p 2 (by omega) (by omega) (by omega)
    obtain ⟨s, hs, es⟩ := ih (acc ++ [(wrap64 (48 + (v : Int))) % 256]) (p + 1) (by omega) (by rw [List.length_append, List.length_singleton]; omega)
    rw [List.length_append, List.length_singleton] at hs
    refine ⟨s, by omega, Ev.step (f := fun k => (spec_l6Rd_pick.f k bs p 2).bind fun x => if acc.length < 140737488355328 then spec_l91Signs.l0 k (acc ++ [(wrap64 (48 + x.1)) % 256]) (c : Nat) bs x.2 else none) (fun k => ?_) (Ev.bind e ?_)⟩
    · simp only [spec_l91Signs.l0]
      rw [if_pos (by omega), wr (x := ((c + 1 : Nat) : Int) - 1) (by omega) (by omega), show ((c + 1 : Nat) : Int) - 1 = (c : Int) from by omega]
    · simp only [if_pos (show acc.length < 140737488355328 from by omega)]
      rw [show p + (c + 1) = p + 1 + c from by omega]
      exact es
theorem signs_draw {bs : List Int} (h : Bs bs) (p low many : Nat) (hp : p ≤ 100000) (hl : low ≤ 1000) (hm : 1 ≤ many) (hm2 : many ≤ 1000) :
    ∃ (s : ByteArray) (q : Nat), s.size ≤ low + many ∧ q ≤ p + 1 + low + many ∧ Ev (fun k => spec_l91Signs.f k bs p low many) (s, (q : Int)) := by
  obtain ⟨v, hv, e⟩ := pick_ev h p many (by omega) hm (by omega)
  obtain ⟨s, hs, es⟩ := signs_draw_l0 h (low + v) [] (p + 1) (by omega) (by simp; omega)
  simp only [List.length_nil] at hs
  refine ⟨s, p + 1 + (low + v), by omega, by omega, ?_⟩
  unfold spec_l91Signs.f
  refine Ev.bind e ?_
  simp only [show wrap64 ((low : Int) + (v : Int)) = ((low + v : Nat) : Int) from by rw [wr (by omega) (by omega)]; omega]
  exact es

theorem set_draw {bs : List Int} (h : Bs bs) (p : Nat) (hp : p ≤ 50000) : ∃ (s : ByteArray) (q : Nat), s.size ≤ 100 ∧ q ≤ p + 100 ∧ Ev (fun k => spec_l91Set.f k bs p) (s, (q : Int)) := by
  obtain ⟨s1, p1, hs1, hp1, e1⟩ := signs_draw h p 0 6 (by omega) (by omega) (by omega) (by omega)
  obtain ⟨s2, p2, hs2, hp2, e2⟩ := signs_draw h p1 1 5 (by omega) (by omega) (by omega) (by omega)
  obtain ⟨v, hv, e3⟩ := pick_ev h p2 24 (by omega) (by omega) (by omega)
  have z1 : (⟨#[40]⟩ : ByteArray).size = 1 := rfl
  have z2 : (⟨#[41]⟩ : ByteArray).size = 1 := rfl
  have z3 : (⟨#[40, 48, 41]⟩ : ByteArray).size = 3 := rfl
  have key : ∃ (s : ByteArray) (q : Nat), s.size ≤ 100 ∧ q ≤ p + 100 ∧ Ev (fun k => if (v : Int) = 0 then ((some (([(⟨#[]⟩ : ByteArray), (⟨#[48]⟩ : ByteArray), (⟨#[40, 41]⟩ : ByteArray), (⟨#[49, 40]⟩ : ByteArray), (⟨#[40, 48, 41, 41]⟩ : ByteArray), (⟨#[97, 40, 49, 41]⟩ : ByteArray), (⟨#[40, 49, 41, 48]⟩ : ByteArray), (⟨#[48, 49, 40, 48, 50, 41]⟩ : ByteArray), (⟨#[48, 40, 40, 49, 41]⟩ : ByteArray)] : List ByteArray) : List ByteArray)).bind fun y => ((spec_l6Rd_pick.f k bs ((p2 + 1 : Nat) : Int) 9).bind fun x => (if 0 ≤ x.1 then (if x.1 < (y.length : Int) then (some (rdOf ByteArray.empty y x.1, x.2)) else (none)) else (none)))) else (if (v : Int) = 1 then ((spec_l91Signs.f k bs ((p2 + 1 : Nat) : Int) 0 6).bind fun x => (if x.1.size + 3 ≤ 9223372036854775807 then (some (x.1 ++ (⟨#[40, 48, 41]⟩ : ByteArray), x.2)) else (none))) else (if (v : Int) = 2 then (if 1 ≤ ((((s1 ++ (⟨#[40]⟩ : ByteArray)) ++ s2) ++ (⟨#[41]⟩ : ByteArray)).size : Int) then (if 1 + ((((s1 ++ (⟨#[40]⟩ : ByteArray)) ++ s2) ++ (⟨#[41]⟩ : ByteArray)).extract 1 (((s1 ++ (⟨#[40]⟩ : ByteArray)) ++ s2) ++ (⟨#[41]⟩ : ByteArray)).size).size ≤ 9223372036854775807 then (some ((⟨#[40]⟩ : ByteArray) ++ ((((s1 ++ (⟨#[40]⟩ : ByteArray)) ++ s2) ++ (⟨#[41]⟩ : ByteArray)).extract 1 (((s1 ++ (⟨#[40]⟩ : ByteArray)) ++ s2) ++ (⟨#[41]⟩ : ByteArray)).size), ((p2 + 1 : Nat) : Int))) else (none)) else (none)) else (some (((s1 ++ (⟨#[40]⟩ : ByteArray)) ++ s2) ++ (⟨#[41]⟩ : ByteArray), ((p2 + 1 : Nat) : Int)))))) (s, (q : Int)) := by
    by_cases c0 : v = 0
    · obtain ⟨u, hu, e4⟩ := pick_ev h (p2 + 1) 9 (by omega) (by omega) (by omega)
      refine ⟨rdOf ByteArray.empty [(⟨#[]⟩ : ByteArray), (⟨#[48]⟩ : ByteArray), (⟨#[40, 41]⟩ : ByteArray), (⟨#[49, 40]⟩ : ByteArray), (⟨#[40, 48, 41, 41]⟩ : ByteArray), (⟨#[97, 40, 49, 41]⟩ : ByteArray), (⟨#[40, 49, 41, 48]⟩ : ByteArray), (⟨#[48, 49, 40, 48, 50, 41]⟩ : ByteArray), (⟨#[48, 40, 40, 49, 41]⟩ : ByteArray)] (u : Int), p2 + 1 + 1, ?_, by omega, ?_⟩
      · have : u = 0 ∨ u = 1 ∨ u = 2 ∨ u = 3 ∨ u = 4 ∨ u = 5 ∨ u = 6 ∨ u = 7 ∨ u = 8 := by omega
        rcases this with rfl | rfl | rfl | rfl | rfl | rfl | rfl | rfl | rfl <;> decide
      · simp only [if_pos (show (v : Int) = 0 from by omega), Option.bind_some]
        refine Ev.bind e4 (Ev.const fun k => ?_)
        rw [if_pos (by omega), if_pos (by simp; omega)]
    · simp only [if_neg (show ¬ (v : Int) = 0 from by omega)]
      by_cases c1 : v = 1
      · obtain ⟨s4, p4, hs4, hp4, e4⟩ := signs_draw h (p2 + 1) 0 6 (by omega) (by omega) (by omega) (by omega)
        refine ⟨s4 ++ ⟨#[40, 48, 41]⟩, p4, by rw [ByteArray.size_append, z3]; omega, by omega, ?_⟩
        simp only [if_pos (show (v : Int) = 1 from by omega)]
        refine Ev.bind e4 (Ev.const fun k => ?_)
        rw [if_pos (by show s4.size + 3 ≤ 9223372036854775807; omega)]
      · simp only [if_neg (show ¬ (v : Int) = 1 from by omega)]
        have hsz : (((s1 ++ (⟨#[40]⟩ : ByteArray)) ++ s2) ++ (⟨#[41]⟩ : ByteArray)).size = s1.size + 1 + s2.size + 1 := by
          rw [ByteArray.size_append, ByteArray.size_append, ByteArray.size_append, z1, z2]
        by_cases c2 : v = 2
        · simp only [if_pos (show (v : Int) = 2 from by omega)]
          have hx : ((((s1 ++ (⟨#[40]⟩ : ByteArray)) ++ s2) ++ (⟨#[41]⟩ : ByteArray)).extract 1 (((s1 ++ (⟨#[40]⟩ : ByteArray)) ++ s2) ++ (⟨#[41]⟩ : ByteArray)).size).size = s1.size + 1 + s2.size := by
            rw [ext_size _ _ _ (Nat.le_refl _), hsz]; omega
          refine ⟨(⟨#[40]⟩ : ByteArray) ++ ((((s1 ++ (⟨#[40]⟩ : ByteArray)) ++ s2) ++ (⟨#[41]⟩ : ByteArray)).extract 1 (((s1 ++ (⟨#[40]⟩ : ByteArray)) ++ s2) ++ (⟨#[41]⟩ : ByteArray)).size), p2 + 1, ?_, by omega, Ev.const fun k => ?_⟩
          · rw [ByteArray.size_append, z1, hx]; omega
          · rw [if_pos (by omega), if_pos (by omega)]
        · simp only [if_neg (show ¬ (v : Int) = 2 from by omega)]
          exact ⟨_, p2 + 1, by rw [hsz]; omega, by omega, Ev.now _⟩
  obtain ⟨s, q, g1, g2, g3⟩ := key
  refine ⟨s, q, g1, g2, ?_⟩
  unfold spec_l91Set.f
  refine Ev.bind e1 ?_
  simp only [if_pos (show s1.size + 1 ≤ 9223372036854775807 from by omega)]
  refine Ev.bind e2 ?_
  have w1 : s1.size + 1 + s2.size ≤ 9223372036854775807 := by omega
  have w2 : s1.size + 1 + s2.size + 1 ≤ 9223372036854775807 := by omega
  simp only [if_pos w1, if_pos w2]
  exact Ev.bind e3 g3

end Go.Proofs.Ytpkpgdlbgcjloaa.Q

namespace Go.Proofs.Ytpkpgdlbgcjloaa.Q
open Go.RowKit Go.Proofs.YtpkpgdlbgcjloaaW.PrintWords Go.Proofs.YtpkpgdlbgcjloaaW.PrintLast Go.Proofs.YtpkpgdlbgcjloaaW.PrintMore
open Go.Proofs.Ytpkpgdlbgcjloaa.Pl
set_option linter.unusedVariables false
set_option linter.unusedSimpArgs false
theorem draw_two {g : Nat → List Int → Option (ByteArray × ByteArray)} (hg : ∀ k l, g k l = (spec_l6Open.f l).bind fun x => (spec_l91Set.f k x.1 x.2).bind fun y => (spec_l91Set.f k x.1 y.2).bind fun z => some (y.1, z.1)) (l0 : List Int) (h : ∀ x ∈ l0, (Lit.int .u8 x).wf = true) : ∃ s u : ByteArray, s.size ≤ 1000 ∧ u.size ≤ 1000 ∧ Ev (fun k => g k l0) (s, u) := by
  obtain ⟨bs, hb, eo⟩ := open_ev l0 h
  obtain ⟨s, q, g1, g2, g3⟩ := set_draw hb 0 (by omega)
  obtain ⟨s2, q2, k1, k2, k3⟩ := set_draw hb q (by omega)
  refine ⟨s, s2, by omega, by omega, Ev.congr (fun k => hg k l0) ?_⟩
  rw [eo]; simp only [Option.bind_some]
  exact Ev.bind g3 (Ev.bind k3 (Ev.now _))
theorem setHas_small {s : ByteArray} {t r : List Bool} (h : IsSmall s t r) (n : Nat) (hn : n ≤ 1073741824) : impl_SetHas.f s n = some (hasB t r n) := by
  obtain ⟨t0, r0, h0, h1⟩ := h.has
  unfold impl_SetHas.f
  rw [h0.impl]; simp only [Option.bind_some, if_true]
  rw [set_has h0.good n (by omega), h1]; rfl
/-- Two sets that are not both small. -/
def NoTwo (s u : ByteArray) : Prop := (NoSmall s ∨ ∃ t r, IsSmall s t r) ∧ (NoSmall u ∨ ∃ t r, IsSmall u t r) ∧ (NoSmall s ∨ NoSmall u)
theorem two_cases (s u : ByteArray) (hs : s.size ≤ 1073741824) (hu : u.size ≤ 1073741824) : NoTwo s u ∨ ∃ ta ra tb rb, IsSmall s ta ra ∧ IsSmall u tb rb := by
  have cs := small_cases s hs
  have cu := small_cases u hu
  rcases cs with h | ⟨t, r, h⟩
  · exact .inl ⟨.inl h, cu, .inl h⟩
  · rcases cu with g | ⟨t', r', g⟩
    · exact .inl ⟨.inr ⟨t, r, h⟩, .inl g, .inr g⟩
    · exact .inr ⟨t, r, t', r', h, g⟩
/-- What SolveLeast and SolveMost answer on two small sets: each is empty or told. -/
theorem leastMost {s u : ByteArray} {ta ra tb rb : List Bool} (h : IsSmall s ta ra) (h2 : IsSmall u tb rb) : ∃ y : ByteArray × Bool, (Ev (fun k => impl_SolveLeast.f k s u) y ∧ Ev (fun k => spec_SolveLeast.f k s u) y) ∧ (y = empt ∨ Told (lst (hasB ta ra) (hasB tb rb)) y) ∧
    ∃ z : ByteArray × Bool, (Ev (fun k => impl_SolveMost.f k s u) z ∧ Ev (fun k => spec_SolveMost.f k s u) z) ∧ z = (if hasB ta ra 0 = true then (text [] [true], true) else y) := by
  obtain ⟨y, y1, y2, y3⟩ := solveLeast_both h h2
  exact ⟨y, ⟨y1, y2⟩, y3, _, solveMost_both h h2 y1 y2, by rw [text_all]⟩
/-- The states of the loop: each is empty or the text of a set. -/
def Text (x : ByteArray × Bool) : Prop := x = empt ∨ ∃ t r, Canon t r ∧ Good t r ∧ x = (text t r, true)
theorem Text.of {f : Nat → Bool} {x : ByteArray × Bool} (h : Told f x) : Text x := by
  cases c : x.2 with
  | false => exact .inl (h.no c)
  | true =>
    obtain ⟨t, r, h1, h2, h3, h4⟩ := h.yes c
    exact .inr ⟨t, r, h1, h2, h4⟩
abbrev one : ByteArray × Bool := ((⟨#[49, 40, 48, 41]⟩ : ByteArray), true)
end Go.Proofs.Ytpkpgdlbgcjloaa.Q

namespace Go.Proofs.Ytpkpgdlbgcjloaa.Pure
open Go.RowKit Go.Proofs.Ytpkpgdlbgcjloaa.Q Go.Proofs.YtpkpgdlbgcjloaaW.PrintWords Go.Proofs.YtpkpgdlbgcjloaaW.PrintLast
open Go.Proofs.Ytpkpgdlbgcjloaa.Pl
set_option linter.unusedSimpArgs false
set_option linter.unusedVariables false
theorem FnSolveMost : laws_FnSolveMost.Pure := by
  intro l0 h1 h2 h
  by_cases hz : (l0.length : Int) > 1048576
  · exact ⟨0, by unfold laws_FnSolveMost.f; rw [if_pos hz]⟩
  obtain ⟨s, u, hs, hu, hd⟩ := draw_two (g := spec_DrawSolveMost.f) (fun k l => rfl) l0 h
  refine Ev.rounds ?_
  unfold laws_FnSolveMost.f
  refine Ev.eq (funext fun k => if_neg hz) (Ev.bind hd ?_)
  rcases two_cases s u (by omega) (by omega) with ⟨h1, h2, h3⟩ | ⟨ta, ra, tb, rb, g, g2⟩
  · obtain ⟨e1, e2⟩ := solveMost_no h1 h2 h3
    refine Ev.bind e1 (Ev.bind e2 (Ev.eq (funext fun k => if_pos rfl) ?_))
    exact Ev.step (f := fun k => laws_FnSolveMost.j1 k s u empt.1 true true) (fun k => by simp only [laws_FnSolveMost.j0, beq_self_eq_true, if_true, Bool.not_false]) (Ev.end fun k => by simp only [laws_FnSolveMost.j1, if_true])
  · obtain ⟨y, ⟨y1, _⟩, y3, z, ⟨z1, z2⟩, z3⟩ := leastMost g g2
    refine Ev.bind z1 (Ev.bind z2 (Ev.eq (funext fun k => if_pos rfl) ?_))
    refine Ev.step (f := fun k => laws_FnSolveMost.j1 k s u z.1 true (!z.2)) (fun k => by simp only [laws_FnSolveMost.j0, beq_self_eq_true, if_true]) ?_
    by_cases c : z.2 = true
    · have s2 : impl_SetHas.f s 0 = some (hasB ta ra 0) := setHas_small g 0 (by omega)
      rcases Bool.eq_false_or_eq_true (hasB ta ra 0) with c0 | c0
      · rw [if_pos c0] at z3
        subst z3
        refine Ev.step (f := fun k => (impl_SetSame.f k (text [] [true]) (⟨#[40, 49, 41]⟩ : ByteArray)).bind fun t => some t) (fun k => by simp only [laws_FnSolveMost.j1, Bool.not_true, Bool.false_eq_true, if_false, s2, Option.bind_some, c0, if_true]) ?_
        exact Ev.bind (setSame_ev set_all set_all (fun n => rfl)) (Ev.now _)
      · rw [if_neg (by rw [c0]; simp)] at z3
        subst z3
        refine Ev.step (f := fun k => (impl_SolveLeast.f k s u).bind fun b => (if b.2 = true then (some (b.1.toList == z.1.toList)) else (some false))) (fun k => by simp only [laws_FnSolveMost.j1, c, Bool.not_true, Bool.false_eq_true, if_false, s2, Option.bind_some, c0]) ?_
        refine Ev.bind y1 ?_
        simp only [c, if_true, beq_self_eq_true]
        exact Ev.now _
    · exact Ev.end fun k => by
        simp only [laws_FnSolveMost.j1]
        rw [if_pos (by cases k2 : z.2 with | false => rfl | true => exact absurd k2 c)]

end Go.Proofs.Ytpkpgdlbgcjloaa.Pure
