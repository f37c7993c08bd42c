/- The law FnProofDiffer holds for all that it draws. -/
import Derived.Test.YtinjblbfaijhdaaDoorCFnProofDiffer1
import Derived.Test.YtinjblbfaijhdaaDoorCFnProofDiffer6
import Derived.Test.YtinjblbfaijhdaaDoorCFnProofDiffer11
import Derived.Test.YtinjblbfaijhdaaDoorCFnProofDiffer12
import Derived.Test.YtinjblbfaijhdaaDoorCFnProofDiffer13
import Derived.Test.YtinjblbfaijhdaaDoorCFnProofDiffer14
import Derived.Test.YtinjblbfaijhdaaDoorCFnProofDiffer16
import Derived.Test.YtinjblbfaijhdaaDoorCFnProofDiffer17
namespace Go.Proofs.YtinjblbfaijhdaaDoor.Q
open Go.RowKit Go.Proofs.YtinjblbfaijhdaaDoorW.PrintWords Go.Proofs.YtinjblbfaijhdaaDoorW.PrintLast Go.Proofs.YtinjblbfaijhdaaDoorW.PrintMore
open Go.Proofs.YtinjblbfaijhdaaDoor.Pl
set_option linter.unusedVariables false
set_option linter.unusedSimpArgs false
/-- The bytes of a text: a word, and numbers of at most five signs, each one behind a space. -/
def Says (s : List UInt8) (w : List UInt8) (ns : List Nat) : Prop := (∀ n ∈ ns, n ≤ 99999) ∧ s = w ++ joinL (ns.map Lib.decDigits)
theorem num_yes (n : Nat) (hn : n ≤ 99999) : impl_numbersOf.num (dec n) = some (n : Int) := by
  unfold impl_numbersOf.num
  rw [show (dec n).data.toList = Lib.decDigits n from rfl, atoi_dec n (by omega)]
  have e : Lib.itoa (n : Int) = Lib.decDigits n := by rw [Lib.itoa, if_neg (by omega), Int.toNat_natCast]
  simp only [e]
  rw [if_pos (by omega)]
  exact if_pos rfl
theorem num_some {s : ByteArray} {v : Int} (h : impl_numbersOf.num s = some v) : ∃ n : Nat, n ≤ 99999 ∧ v = (n : Int) ∧ s.data.toList = Lib.decDigits n := by
  unfold impl_numbersOf.num at h
  split at h
  · split at h
    · rename_i u hu hr
      split at h
      · rename_i he
        obtain rfl := Option.some.inj h
        refine ⟨u.toNat, by omega, by omega, ?_⟩
        rw [← he, Lib.itoa, if_neg (by omega)]
      · cases h
    · cases h
  · cases h
theorem nums_yes (ns : List Nat) (h : ∀ n ∈ ns, n ≤ 99999) : ∀ L : List ByteArray, L.map (·.data.toList) = ns.map Lib.decDigits → impl_numbersOf.nums L = some (ns.map fun y : Nat => (y : Int)) := by
  induction ns with
  | nil =>
    intro L e
    have : L = [] := by simpa using e
    subst this; rfl
  | cons n ns ih =>
    intro L e
    cases L with
    | nil => simp at e
    | cons x L =>
      simp only [List.map_cons, List.cons.injEq] at e
      have hx : x = dec n := ba_ext' e.1
      simp only [impl_numbersOf.nums, hx, num_yes n (h n (List.mem_cons_self ..)), ih (fun m hm => h m (List.mem_cons_of_mem _ hm)) L e.2, Option.bind_some, List.map_cons]
theorem nums_some : ∀ (L : List ByteArray) (l : List Int), impl_numbersOf.nums L = some l → ∃ ns : List Nat, (∀ n ∈ ns, n ≤ 99999) ∧ l = ns.map (fun y : Nat => (y : Int)) ∧ L.map (·.data.toList) = ns.map Lib.decDigits := by
  intro L
  induction L with
  | nil =>
    intro l h
    obtain rfl := Option.some.inj h
    exact ⟨[], (fun n hn => by cases hn), rfl, rfl⟩
  | cons x L ih =>
    intro l h
    simp only [impl_numbersOf.nums] at h
    obtain ⟨v, hv, h⟩ := Option.bind_eq_some_iff.mp h
    obtain ⟨r, hr, h⟩ := Option.bind_eq_some_iff.mp h
    obtain rfl := Option.some.inj h
    obtain ⟨n, n1, rfl, n3⟩ := num_some hv
    obtain ⟨ns, m1, rfl, m3⟩ := ih r hr
    refine ⟨n :: ns, fun k hk => ?_, rfl, by simp [n3, m3]⟩
    rcases List.mem_cons.1 hk with e | e
    · omega
    · exact m1 k e
theorem parts_cut (s : ByteArray) : (impl_numbersOf.parts s).map (·.data.toList) = cutL s.data.toList := by
  have h1 : Lib.countB s impl_numbersOf.sp = s.data.toList.count 32 := Lib.count_one 32 s.data.toList
  unfold impl_numbersOf.parts
  rw [Lib.splitB_data, h1]
  exact splitK_cut _ _ rfl
/-- The program's reader: a list and true just where the text says it. -/
theorem numbersOf_is (s w : ByteArray) (hs : s.size ≤ 1073741824) (hw : ∀ c ∈ w.data.toList, c ≠ 32) : ∃ (l : List Int) (b : Bool), impl_numbersOf.f s w = some (l, b) ∧ (b = true → ∃ ns, Says s.data.toList w.data.toList ns ∧ l = ns.map fun y : Nat => (y : Int)) ∧ ∀ ns, Says s.data.toList w.data.toList ns → b = true := by
  have hp := parts_cut s
  obtain ⟨x, r, h1, h2⟩ := join_cut s.data.toList
  cases hP : impl_numbersOf.parts s with
  | nil => rw [hP, h1] at hp; simp at hp
  | cons p L =>
    rw [hP, h1] at hp
    simp only [List.map_cons, List.cons.injEq] at hp
    unfold impl_numbersOf.f
    rw [if_pos (by omega), hP]
    simp only [List.tail_cons, List.headD_cons]
    have back : ∀ ns, Says s.data.toList w.data.toList ns → x = w.data.toList ∧ r = ns.map Lib.decDigits := by
      intro ns hn
      have := cut_text w.data.toList (ns.map Lib.decDigits) hw (fun d hd c hc => by
        obtain ⟨n, _, rfl⟩ := List.mem_map.1 hd
        exact dec_nospace n c hc)
      rw [← hn.2, h1] at this
      simp only [List.cons.injEq] at this
      exact this
    cases hn : impl_numbersOf.nums L with
    | none =>
      refine ⟨[], false, rfl, (fun h => by cases h), fun ns k => ?_⟩
      obtain ⟨_, e2⟩ := back ns k
      have := nums_yes ns k.1 L (by rw [hp.2, e2])
      rw [hn] at this; cases this
    | some l =>
      obtain ⟨ns, m1, rfl, m3⟩ := nums_some L l hn
      refine ⟨_, _, rfl, fun hb => ⟨ns, ⟨m1, ?_⟩, rfl⟩, fun ns' k => ?_⟩
      · have e : p = w := of_decide_eq_true hb
        rw [h2, ← hp.1, ← hp.2, m3, e]
      · obtain ⟨e1, _⟩ := back ns' k
        have : p = w := ba_ext' (by rw [hp.1, e1])
        simp [this]

def scan : Nat → Nat → List UInt8 → Nat × Nat
  | 0, v, _ => (0, v)
  | _ + 1, v, [] => (0, v)
  | f + 1, v, c :: l => if 48 ≤ c.toNat ∧ c.toNat ≤ 57 then ((scan f (10 * v + (c.toNat - 48)) l).1 + 1, (scan f (10 * v + (c.toNat - 48)) l).2) else (0, v)
theorem scan_le (f : Nat) : ∀ v l, (scan f v l).1 ≤ l.length := by
  induction f with
  | zero => intro v l; exact Nat.zero_le _
  | succ f ih =>
    intro v l
    cases l with
    | nil => exact Nat.le_refl _
    | cons c l =>
      unfold scan
      split
      · have := ih (10 * v + (c.toNat - 48)) l; simp only [List.length_cons]; omega
      · exact Nat.zero_le _
theorem scan_lt (f : Nat) : ∀ v l b, v < b → (scan f v l).2 < b * 10 ^ f := by
  induction f with
  | zero => intro v l b h; simpa [scan] using h
  | succ f ih =>
    intro v l b h
    have h10 : b ≤ b * 10 ^ (f + 1) := Nat.le_mul_of_pos_right _ (Nat.pow_pos (by omega))
    cases l with
    | nil => show v < _; omega
    | cons c l =>
      unfold scan
      split
      · have := ih (10 * v + (c.toNat - 48)) l (b * 10) (by omega)
        rw [Nat.pow_succ, Nat.mul_comm (10 ^ f) 10, ← Nat.mul_assoc]; exact this
      · show v < _; omega
def value (v : Nat) (l : List UInt8) : Nat := l.foldl (fun a c => 10 * a + (c.toNat - 48)) v
theorem scan_digits (ds : List UInt8) (rest : List UInt8) (hr : ∀ c, rest.head? = some c → ¬ (48 ≤ c.toNat ∧ c.toNat ≤ 57)) : ∀ f v, ds.length ≤ f → (∀ c ∈ ds, Digit c) → scan f v (ds ++ rest) = (ds.length, value v ds) := by
  induction ds with
  | nil =>
    intro f v _ _
    cases f with
    | zero => rfl
    | succ f =>
      cases rest with
      | nil => rfl
      | cons c r => show (if _ then _ else _) = _; rw [if_neg (hr c rfl)]; rfl
  | cons d ds ih =>
    intro f v hf hd
    cases f with
    | zero => simp at hf
    | succ f =>
      have h1 := hd d (List.mem_cons_self ..)
      unfold Digit at h1
      simp only [List.cons_append, scan]
      rw [if_pos h1, ih f _ (by simpa using hf) (fun c hc => hd c (List.mem_cons_of_mem _ hc))]
      rfl
theorem value_dec (n : Nat) : value 0 (Lib.decDigits n) = n := by
  induction n using Nat.strongRecOn with
  | ind n ih =>
    rw [Lib.decDigits]
    split
    · rename_i h
      show 10 * 0 + ((UInt8.ofNat (48 + n)).toNat - 48) = n
      rw [(digit_of n h).2]; omega
    · have := ih (n / 10) (by omega)
      unfold value at *
      rw [List.foldl_append, this]
      show 10 * (n / 10) + ((UInt8.ofNat (48 + n % 10)).toNat - 48) = n
      rw [(digit_of (n % 10) (by omega)).2]; omega
theorem dec_short (k : Nat) : ∀ n, n < 10 ^ (k + 1) → (Lib.decDigits n).length ≤ k + 1 := by
  induction k with
  | zero =>
    intro n h
    rw [Lib.decDigits, dif_pos (by simpa using h)]; simp
  | succ k ih =>
    intro n h
    rw [Lib.decDigits]
    split
    · simp
    · have := ih (n / 10) (by rw [Nat.pow_succ] at h; omega)
      rw [List.length_append]; simp only [List.length_cons, List.length_nil]; omega
theorem join_head (ds : List (List UInt8)) (c : UInt8) (h : (joinL ds).head? = some c) : ¬ (48 ≤ c.toNat ∧ c.toNat ≤ 57) := by
  cases ds with
  | nil => simp [joinL] at h
  | cons d ds =>
    have : c = 32 := by simpa [joinL] using h.symm
    rw [this]; decide
theorem scan_text (n : Nat) (hn : n ≤ 99999) (ds : List (List UInt8)) : scan 5 0 (Lib.decDigits n ++ joinL ds) = ((Lib.decDigits n).length, n) := by
  rw [scan_digits _ _ (join_head ds) 5 0 (dec_short 4 n (by omega)) (dec_digits n), value_dec]
/-- What the reader does once the digits are read. -/
def tailF (k : Nat) (s : ByteArray) (acc : List Int) (at_ from_ end_ v : Int) : Option (List Int × Bool) :=
  if 0 ≤ at_ then (if at_ < (s.size : Int) then (if (bt s at_) = 32 then (if end_ = from_ then (some ((([] : List Int)), false)) else (if 0 ≤ from_ then (if from_ ≤ end_ then (if end_ ≤ (s.size : Int) then ((spec_l6Dec.f k v).bind fun t => (if (s.extract (from_ : Int).toNat (end_ : Int).toNat).toList = t.toList then (if acc.length < 17592186044416 then (spec_l11Read.l0 k s (acc ++ [v]) end_) else (none)) else (some ((([] : List Int)), false)))) else (none)) else (none)) else (none))) else (some ((([] : List Int)), false))) else (none)) else (none)
theorem l1_eq (k : Nat) (s : ByteArray) (acc : List Int) (a f e v : Int) : spec_l11Read.l1 (k + 1) s acc a f e v = if e < (s.size : Int) then (if 0 ≤ e then (if (bt s e) ≥ 48 then (if (bt s e) ≤ 57 then (if (wrap64 (e - f)) < 5 then (spec_l11Read.l1 k s acc a f (wrap64 (e + 1)) (wrap64 ((wrap64 (10 * v)) + (((bt s e) - 48) % 256)))) else tailF k s acc a f e v) else tailF k s acc a f e v) else tailF k s acc a f e v) else none) else tailF k s acc a f e v := rfl
theorem scan_ev (s : ByteArray) (hs : s.size ≤ 1073741824) (acc : List Int) (p : Nat) (r : List Int × Bool) (f : Nat) : ∀ (e v : Nat), e ≤ s.size → e + f = p + 1 + 5 → p + 1 ≤ e → v < 10 ^ (5 - f) → f ≤ 5 →
    Ev (fun k => tailF k s acc (p : Int) ((p + 1 : Nat) : Int) ((e + (scan f v (s.data.toList.drop e)).1 : Nat) : Int) (((scan f v (s.data.toList.drop e)).2 : Nat) : Int)) r → Ev (fun k => spec_l11Read.l1 k s acc (p : Int) ((p + 1 : Nat) : Int) (e : Int) (v : Int)) r := by
  have hl := size_data s
  induction f with
  | zero =>
    intro e v he hf hp hv h5 h
    refine Ev.step (fun k => ?_) h
    rw [l1_eq]
    have hw : ¬ wrap64 ((e : Int) - ((p + 1 : Nat) : Int)) < 5 := by rw [wr (by omega) (by omega)]; omega
    by_cases c : (e : Int) < (s.size : Int)
    · rw [if_pos c, if_pos (by omega), if_neg hw]
      repeat' split
      all_goals rfl
    · rw [if_neg c]; rfl
  | succ f ih =>
    intro e v he hf hp hv h5 h
    by_cases c : e < s.size
    · have hd : s.data.toList.drop e = s.data.toList.getD e 0 :: s.data.toList.drop (e + 1) := drop_getD _ _ _ (by omega)
      have hb := bt_list s e c
      rw [hd] at h
      generalize s.data.toList.getD e 0 = ch at hb h
      have hw : wrap64 ((e : Int) - ((p + 1 : Nat) : Int)) < 5 := by rw [wr (by omega) (by omega)]; omega
      by_cases hc : 48 ≤ ch.toNat ∧ ch.toNat ≤ 57
      · have hv5 : v < 100000 := Nat.lt_of_lt_of_le hv (show 10 ^ (5 - (f + 1)) ≤ 10 ^ 5 from Nat.pow_le_pow_right (by omega) (by omega))
        have h2 : scan (f + 1) v (ch :: s.data.toList.drop (e + 1)) = ((scan f (10 * v + (ch.toNat - 48)) (s.data.toList.drop (e + 1))).1 + 1, (scan f (10 * v + (ch.toNat - 48)) (s.data.toList.drop (e + 1))).2) := by
          show (if _ then _ else _) = _
          rw [if_pos hc]
        rw [h2] at h
        have h3 := ih (e + 1) (10 * v + (ch.toNat - 48)) (by omega) (by omega) (by omega) (by
          have : 10 ^ (5 - f) = 10 * 10 ^ (5 - (f + 1)) := by rw [show 5 - f = (5 - (f + 1)) + 1 by omega, Nat.pow_succ, Nat.mul_comm]
          omega) (by omega) (by
          have e1 : e + 1 + (scan f (10 * v + (ch.toNat - 48)) (s.data.toList.drop (e + 1))).1 = e + ((scan f (10 * v + (ch.toNat - 48)) (s.data.toList.drop (e + 1))).1 + 1) := by omega
          rw [e1]; exact h)
        refine Ev.step (fun k => ?_) h3
        rw [l1_eq, hb, if_pos (by omega), if_pos (by omega), if_pos (by omega), if_pos (by omega), if_pos hw, wr1 (by omega), wr (x := 10 * (v : Int)) (by omega) (by omega), wr (by omega) (by omega)]
        congr 1
        omega
      · have h2 : scan (f + 1) v (ch :: s.data.toList.drop (e + 1)) = (0, v) := by
          show (if _ then _ else _) = _
          rw [if_neg hc]
        rw [h2] at h
        refine Ev.step (fun k => ?_) h
        rw [l1_eq, hb, if_pos (by omega), if_pos (by omega)]
        by_cases c1 : 48 ≤ ch.toNat
        · rw [if_pos (by omega), if_neg (by omega)]; rfl
        · rw [if_neg (by omega)]; rfl
    · have hd : s.data.toList.drop e = [] := List.drop_eq_nil_of_le (by omega)
      rw [hd] at h
      refine Ev.step (fun k => ?_) h
      rw [l1_eq, if_neg (by omega)]
      rfl
/-- From place p on. -/
theorem l11_l0 (s : ByteArray) (hs : s.size ≤ 1073741824) (m : Nat) : ∀ (p : Nat) (acc : List Int), p ≤ s.size → s.size - p ≤ m → acc.length ≤ p → ∃ (l : List Int) (b : Bool), Ev (fun k => spec_l11Read.l0 k s acc (p : Int)) (l, b) ∧
    (b = true → ∃ ns : List Nat, (∀ n ∈ ns, n ≤ 99999) ∧ l = acc ++ ns.map (fun y : Nat => (y : Int)) ∧ s.data.toList.drop p = joinL (ns.map Lib.decDigits)) ∧
    (∀ ns : List Nat, (∀ n ∈ ns, n ≤ 99999) → s.data.toList.drop p = joinL (ns.map Lib.decDigits) → b = true) := by
  have hl := size_data s
  induction m with
  | zero =>
    intro p acc hp hm ha
    refine ⟨acc, true, Ev.end fun k => ?_, fun _ => ⟨[], (fun n hn => by cases hn), by simp, by rw [List.drop_eq_nil_of_le (by omega)]; rfl⟩, fun _ _ _ => rfl⟩
    simp only [spec_l11Read.l0]
    rw [if_neg (by omega)]
  | succ m ih =>
    intro p acc hp hm ha
    by_cases hps : p < s.size
    · have hd : s.data.toList.drop p = s.data.toList.getD p 0 :: s.data.toList.drop (p + 1) := drop_getD _ _ _ (by omega)
      have hb := bt_list s p hps
      have sc1 := scan_le 5 0 (s.data.toList.drop (p + 1))
      have sc2 := scan_lt 5 0 (s.data.toList.drop (p + 1)) 1 (by omega)
      have key : ∀ ns : List Nat, (∀ n ∈ ns, n ≤ 99999) → s.data.toList.drop p = joinL (ns.map Lib.decDigits) → ∃ n ns', ns = n :: ns' ∧ s.data.toList.getD p 0 = 32 ∧ scan 5 0 (s.data.toList.drop (p + 1)) = ((Lib.decDigits n).length, n) ∧ s.data.toList.drop (p + 1) = Lib.decDigits n ++ joinL (ns'.map Lib.decDigits) := by
        intro ns h1 h2
        cases ns with
        | nil => rw [hd] at h2; simp [joinL] at h2
        | cons n ns' =>
          have e : joinL ((n :: ns').map Lib.decDigits) = 32 :: (Lib.decDigits n ++ joinL (ns'.map Lib.decDigits)) := rfl
          rw [hd, e] at h2
          simp only [List.cons.injEq] at h2
          exact ⟨n, ns', rfl, h2.1, by rw [h2.2]; exact scan_text n (h1 n (List.mem_cons_self ..)) _, h2.2⟩
      have fin : ∀ (l : List Int) (b : Bool), Ev (fun k => tailF k s acc (p : Int) ((p + 1 : Nat) : Int) ((p + 1 + (scan 5 0 (s.data.toList.drop (p + 1))).1 : Nat) : Int) (((scan 5 0 (s.data.toList.drop (p + 1))).2 : Nat) : Int)) (l, b) → Ev (fun k => spec_l11Read.l0 k s acc (p : Int)) (l, b) := by
        intro l b h
        have := scan_ev s hs acc p (l, b) 5 (p + 1) 0 (by omega) (by omega) (by omega) (by omega) (by omega) h
        refine Ev.step (fun k => ?_) this
        simp only [spec_l11Read.l0]
        rw [if_pos (by omega), wr1 (by omega)]
        rfl
      generalize hch : s.data.toList.getD p 0 = ch at hd hb key
      generalize hsc : scan 5 0 (s.data.toList.drop (p + 1)) = sc at sc1 sc2 key fin
      obtain ⟨cnt, v⟩ := sc
      simp only at sc1 sc2 fin
      rw [List.length_drop] at sc1
      have hv : v ≤ 99999 := by omega
      by_cases c1 : ch = 32
      · have hb2 : bt s (p : Int) = 32 := by rw [hb, c1]; rfl
        by_cases c2 : cnt = 0
        · refine ⟨[], false, fin _ _ (Ev.const fun k => ?_), (fun h => by cases h), fun ns h1 h2 => ?_⟩
          · unfold tailF
            rw [if_pos (by omega), if_pos (by omega), if_pos hb2, if_pos (by omega)]
          · obtain ⟨n, ns', _, _, e3, _⟩ := key ns h1 h2
            have := dec_ne_nil n
            simp only [Prod.mk.injEq] at e3
            have h0 : (Lib.decDigits n).length = 0 := by omega
            exact absurd (List.length_eq_zero_iff.1 h0) this
        · have hex : (s.extract (p + 1) (p + 1 + cnt)).data.toList = (s.data.toList.drop (p + 1)).take cnt := by
            rw [ext_list, List.drop_take]
            congr 1; omega
          have hlt : p + 1 + cnt ≤ s.size := by omega
          have tail_ : ∀ res : List Int × Bool, (if (s.extract (p + 1) (p + 1 + cnt)).toList = (dec v).toList then Ev (fun k => spec_l11Read.l0 k s (acc ++ [(v : Int)]) ((p + 1 + cnt : Nat) : Int)) res else res = ([], false)) → Ev (fun k => tailF k s acc (p : Int) ((p + 1 : Nat) : Int) ((p + 1 + cnt : Nat) : Int) (v : Int)) res := by
            intro res hres
            refine Ev.congr (fun k => (show tailF k s acc (p : Int) ((p + 1 : Nat) : Int) ((p + 1 + cnt : Nat) : Int) (v : Int) = (spec_l6Dec.f k (v : Int)).bind fun t => (if (s.extract (p + 1) (p + 1 + cnt)).toList = t.toList then (spec_l11Read.l0 k s (acc ++ [(v : Int)]) ((p + 1 + cnt : Nat) : Int)) else (some ((([] : List Int)), false))) by
              unfold tailF
              rw [if_pos (by omega), if_pos (by omega), if_pos hb2, if_neg (by omega), if_pos (by omega), if_pos (by omega), if_pos (by omega)]
              simp only [Int.toNat_natCast, if_pos (show acc.length < 17592186044416 by omega)])) ?_
            refine Ev.bind (dec_ev v (by omega)) ?_
            split at hres
            · rename_i he; simp only [if_pos he]; exact hres
            · rename_i he; simp only [if_neg he]; rw [hres]; exact Ev.now _
          by_cases c3 : (s.extract (p + 1) (p + 1 + cnt)).toList = (dec v).toList
          · obtain ⟨l, b, k1, k2, k3⟩ := ih (p + 1 + cnt) (acc ++ [(v : Int)]) (by omega) (by omega) (by rw [List.length_append]; simp; omega)
            have c4 : (s.data.toList.drop (p + 1)).take cnt = Lib.decDigits v := by
              rw [← hex, ← toList_eq, c3, toList_eq]; rfl
            have c5 : s.data.toList.drop (p + 1) = Lib.decDigits v ++ s.data.toList.drop (p + 1 + cnt) := by
              have e := (List.take_append_drop cnt (s.data.toList.drop (p + 1))).symm
              rw [List.drop_drop, c4] at e
              exact e
            refine ⟨l, b, fin _ _ (tail_ _ (by rw [if_pos c3]; exact k1)), fun hb3 => ?_, fun ns h1 h2 => ?_⟩
            · obtain ⟨ns, n1, n2, n3⟩ := k2 hb3
              refine ⟨v :: ns, fun x hx => ?_, by rw [n2]; simp, ?_⟩
              · rcases List.mem_cons.1 hx with e | e
                · omega
                · exact n1 x e
              · rw [hd, c5, n3, c1]; rfl
            · obtain ⟨n, ns', rfl, _, e3, e4⟩ := key ns h1 h2
              simp only [Prod.mk.injEq] at e3
              obtain ⟨e31, e32⟩ := e3
              subst e32
              refine k3 ns' (fun x hx => h1 x (List.mem_cons_of_mem _ hx)) ?_
              rw [c5] at e4
              exact List.append_cancel_left e4
          · refine ⟨[], false, fin _ _ (tail_ _ (by rw [if_neg c3])), (fun h => by cases h), fun ns h1 h2 => ?_⟩
            obtain ⟨n, ns', rfl, _, e3, e4⟩ := key ns h1 h2
            simp only [Prod.mk.injEq] at e3
            obtain ⟨e31, e32⟩ := e3
            refine absurd ?_ c3
            rw [toList_eq, toList_eq, hex, e4, e31, e32]
            simp [dec]
      · refine ⟨[], false, fin _ _ (Ev.const fun k => ?_), (fun h => by cases h), fun ns h1 h2 => ?_⟩
        · unfold tailF
          have hb2 : ¬ bt s (p : Int) = 32 := by
            rw [hb]
            intro e
            refine c1 ?_
            have : ch.toNat = 32 := by omega
            exact UInt8.toNat_inj.1 this
          rw [if_pos (by omega), if_pos (by omega), if_neg hb2]
        · obtain ⟨n, ns', _, e, _⟩ := key ns h1 h2
          exact absurd e c1
    · obtain rfl : p = s.size := by omega
      refine ⟨acc, true, Ev.end fun k => ?_, fun _ => ⟨[], (fun n hn => by cases hn), by simp, by rw [List.drop_eq_nil_of_le (by omega)]; rfl⟩, fun _ _ _ => rfl⟩
      simp only [spec_l11Read.l0]
      rw [if_neg (by omega)]
/-- The reference's reader: a list and true just where the text says it. -/
theorem l11Read_is (s w : ByteArray) (hs : s.size ≤ 1073741824) (hws : w.size ≤ 1000) : ∃ (l : List Int) (b : Bool), Ev (fun k => spec_l11Read.f k s w) (l, b) ∧ (b = true → ∃ ns, Says s.data.toList w.data.toList ns ∧ l = ns.map fun y : Nat => (y : Int)) ∧ ∀ ns, Says s.data.toList w.data.toList ns → b = true := by
  have hl := size_data s
  have hlw := size_data w
  have no : ∀ ns, Says s.data.toList w.data.toList ns → w.size ≤ s.size ∧ s.data.toList.take w.size = w.data.toList := by
    intro ns h
    have e := h.2
    constructor
    · rw [← hl, e, List.length_append, hlw]; omega
    · rw [e, ← hlw]; simp
  by_cases c : (s.size : Int) < (w.size : Int)
  · refine ⟨[], false, ?_, (fun h => by cases h), fun ns h => by have := (no ns h).1; omega⟩
    unfold spec_l11Read.f
    simp only [Option.bind_some, if_pos c]
    exact Ev.end fun k => by simp only [spec_l11Read.j0, if_true]
  · have st : ∀ r, Ev (fun k => spec_l11Read.j0 k s w [] ((s.extract 0 w.size).toList != w.toList)) r → Ev (fun k => spec_l11Read.f k s w) r := by
      intro r h
      unfold spec_l11Read.f
      simp only [Option.bind_some, if_neg c, if_pos (show 0 ≤ (w.size : Int) by omega), if_pos (show (w.size : Int) ≤ (s.size : Int) by omega), Int.toNat_natCast]
      exact h
    by_cases c2 : (s.extract 0 w.size).toList = w.toList
    · obtain ⟨l, b, k1, k2, k3⟩ := l11_l0 s hs s.size w.size [] (by omega) (by omega) (Nat.zero_le _)
      have c3 : s.data.toList.take w.size = w.data.toList := by
        rw [toList_eq, toList_eq, ext_list] at c2
        simpa using c2
      have c4 : s.data.toList = w.data.toList ++ s.data.toList.drop w.size := by
        rw [← c3]; exact (List.take_append_drop w.size _).symm
      refine ⟨l, b, st _ ?_, fun hb => ?_, fun ns h => ?_⟩
      · have e : ((s.extract 0 w.size).toList != w.toList) = false := by simp [c2]
        rw [e]
        exact Ev.step (fun k => by simp only [spec_l11Read.j0, Bool.false_eq_true, if_false]) k1
      · obtain ⟨ns, n1, n2, n3⟩ := k2 hb
        exact ⟨ns, ⟨n1, by rw [← n3]; exact c4⟩, by simpa using n2⟩
      · refine k3 ns h.1 ?_
        have := h.2
        rw [c4] at this
        exact List.append_cancel_left this
    · refine ⟨[], false, st _ ?_, (fun h => by cases h), fun ns h => ?_⟩
      · have e : ((s.extract 0 w.size).toList != w.toList) = true := by simp [c2]
        rw [e]
        exact Ev.end fun k => by simp only [spec_l11Read.j0, if_true]
      · refine absurd ?_ c2
        rw [toList_eq, toList_eq, ext_list, (no ns h).2]
        simp


theorem says_inj {s w : List UInt8} {ns ns' : List Nat} (hw : ∀ c ∈ w, c ≠ 32) (h : Says s w ns) (h' : Says s w ns') : ns = ns' := by
  have dn : ∀ ms : List Nat, ∀ d ∈ ms.map Lib.decDigits, ∀ c ∈ d, c ≠ 32 := fun ms d hd c hc => by
    obtain ⟨n, _, rfl⟩ := List.mem_map.1 hd
    exact dec_nospace n c hc
  have e1 := cut_text w (ns.map Lib.decDigits) hw (dn ns)
  have e2 := cut_text w (ns'.map Lib.decDigits) hw (dn ns')
  rw [← h.2] at e1
  rw [← h'.2, e1] at e2
  simp only [List.cons.injEq, true_and] at e2
  have inj : ∀ n m : Nat, Lib.decDigits n = Lib.decDigits m → n = m := fun n m e => by rw [← value_dec n, e, value_dec]
  clear e1 h h' dn
  induction ns generalizing ns' with
  | nil => cases ns' with | nil => rfl | cons _ _ => simp at e2
  | cons n ns ih =>
    cases ns' with
    | nil => simp at e2
    | cons m ns' =>
      simp only [List.map_cons, List.cons.injEq] at e2
      rw [inj n m e2.1, ih e2.2]

theorem words_says (l : List Nat) : ∀ x : ByteArray, (wordsB x l).data.toList = x.data.toList ++ joinL (l.map Lib.decDigits) := by
  induction l with
  | nil => intro x; simp [wordsB, joinL]
  | cons n l ih =>
    intro x
    show (wordsB (x ++ (⟨#[32]⟩ : ByteArray) ++ dec n) l).data.toList = _
    rw [ih]
    simp [ByteArray.data_append, dec, joinL]
end Go.Proofs.YtinjblbfaijhdaaDoor.Q
