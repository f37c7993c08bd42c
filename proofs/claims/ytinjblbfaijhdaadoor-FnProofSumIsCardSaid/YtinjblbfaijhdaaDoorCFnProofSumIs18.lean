/- The law FnProofSumIs holds for all that it draws. -/
import Derived.Test.YtinjblbfaijhdaaDoorCFnProofSumIs1
import Derived.Test.YtinjblbfaijhdaaDoorCFnProofSumIs5
import Derived.Test.YtinjblbfaijhdaaDoorCFnProofSumIs10
import Derived.Test.YtinjblbfaijhdaaDoorCFnProofSumIs12
import Derived.Test.YtinjblbfaijhdaaDoorCFnProofSumIs13
import Derived.Test.YtinjblbfaijhdaaDoorCFnProofSumIs14
import Derived.Test.YtinjblbfaijhdaaDoorCFnProofSumIs15
import Derived.Test.YtinjblbfaijhdaaDoorCFnProofSumIs16
import Derived.Test.YtinjblbfaijhdaaDoorCFnProofSumIs17
namespace Go.Proofs.YtinjblbfaijhdaaDoor.Q
open Go.RowKit Go.Proofs.YtinjblbfaijhdaaDoorW.PrintWords Go.Proofs.YtinjblbfaijhdaaDoorW.PrintLast Go.Proofs.YtinjblbfaijhdaaDoorW.PrintMore
open Go.Proofs.YtinjblbfaijhdaaDoor.Pl
set_option linter.unusedVariables false
set_option linter.unusedSimpArgs false
/-- The bytes of a text: a word, and numbers of at most five signs, each one behind a space. -/
def Says (s : List UInt8) (w : List UInt8) (ns : List Nat) : Prop := (∀ n ∈ ns, n ≤ 99999) ∧ s = w ++ joinL (ns.map Lib.decDigits)
theorem num_yes (n : Nat) (hn : n ≤ 99999) : impl_numbersOf.num (dec n) = some (n : Int) := by
  unfold impl_numbersOf.num
  rw [show (dec n).data.toList = Lib.decDigits n from rfl, atoi_dec n (by omega)]
  have e : Lib.itoa (n : Int) = Lib.decDigits n := by rw [Lib.itoa, if_neg (by omega), Int.toNat_natCast]
  simp only [e]
  rw [if_pos (by omega)]
  exact if_pos rfl
theorem num_some {s : ByteArray} {v : Int} (h : impl_numbersOf.num s = some v) : ∃ n : Nat, n ≤ 99999 ∧ v = (n : Int) ∧ s.data.toList = Lib.decDigits n := by
  unfold impl_numbersOf.num at h
  split at h
  · split at h
    · rename_i u hu hr
      split at h
      · rename_i he
        obtain rfl := Option.some.inj h
        refine ⟨u.toNat, by omega, by omega, ?_⟩
        rw [← he, Lib.itoa, if_neg (by omega)]
      · cases h
    · cases h
  · cases h
theorem nums_yes (ns : List Nat) (h : ∀ n ∈ ns, n ≤ 99999) : ∀ L : List ByteArray, L.map (·.data.toList) = ns.map Lib.decDigits → impl_numbersOf.nums L = some (ns.map fun y : Nat => (y : Int)) := by
  induction ns with
  | nil =>
    intro L e
    have : L = [] := by simpa using e
    subst this; rfl
  | cons n ns ih =>
    intro L e
    cases L with
    | nil => simp at e
    | cons x L =>
      simp only [List.map_cons, List.cons.injEq] at e
      have hx : x = dec n := ba_ext' e.1
      simp only [impl_numbersOf.nums, hx, num_yes n (h n (List.mem_cons_self ..)), ih (fun m hm => h m (List.mem_cons_of_mem _ hm)) L e.2, Option.bind_some, List.map_cons]
theorem nums_some : ∀ (L : List ByteArray) (l : List Int), impl_numbersOf.nums L = some l → ∃ ns : List Nat, (∀ n ∈ ns, n ≤ 99999) ∧ l = ns.map (fun y : Nat => (y : Int)) ∧ L.map (·.data.toList) = ns.map Lib.decDigits := by
  intro L
  induction L with
  | nil =>
    intro l h
    obtain rfl := Option.some.inj h
    exact ⟨[], (fun n hn => by cases hn), rfl, rfl⟩
  | cons x L ih =>
    intro l h
    simp only [impl_numbersOf.nums] at h
    obtain ⟨v, hv, h⟩ := Option.bind_eq_some_iff.mp h
    obtain ⟨r, hr, h⟩ := Option.bind_eq_some_iff.mp h
    obtain rfl := Option.some.inj h
    obtain ⟨n, n1, rfl, n3⟩ := num_some hv
    obtain ⟨ns, m1, rfl, m3⟩ := ih r hr
    refine ⟨n :: ns, fun k hk => ?_, rfl, by simp [n3, m3]⟩
    rcases List.mem_cons.1 hk with e | e
    · omega
    · exact m1 k e
theorem parts_cut (s : ByteArray) : (impl_numbersOf.parts s).map (·.data.toList) = cutL s.data.toList := by
  have h1 : Lib.countB s impl_numbersOf.sp = s.data.toList.count 32 := Lib.count_one 32 s.data.toList
  unfold impl_numbersOf.parts
  rw [Lib.splitB_data, h1]
  exact splitK_cut _ _ rfl
/-- The program's reader: a list and true just where the text says it. -/
theorem numbersOf_is (s w : ByteArray) (hs : s.size ≤ 1073741824) (hw : ∀ c ∈ w.data.toList, c ≠ 32) : ∃ (l : List Int) (b : Bool), impl_numbersOf.f s w = some (l, b) ∧ (b = true → ∃ ns, Says s.data.toList w.data.toList ns ∧ l = ns.map fun y : Nat => (y : Int)) ∧ ∀ ns, Says s.data.toList w.data.toList ns → b = true := by
  have hp := parts_cut s
  obtain ⟨x, r, h1, h2⟩ := join_cut s.data.toList
  cases hP : impl_numbersOf.parts s with
  | nil => rw [hP, h1] at hp; simp at hp
  | cons p L =>
    rw [hP, h1] at hp
    simp only [List.map_cons, List.cons.injEq] at hp
    unfold impl_numbersOf.f
    rw [if_pos (by omega), hP]
    simp only [List.tail_cons, List.headD_cons]
    have back : ∀ ns, Says s.data.toList w.data.toList ns → x = w.data.toList ∧ r = ns.map Lib.decDigits := by
      intro ns hn
      have := cut_text w.data.toList (ns.map Lib.decDigits) hw (fun d hd c hc => by
        obtain ⟨n, _, rfl⟩ := List.mem_map.1 hd
        exact dec_nospace n c hc)
      rw [← hn.2, h1] at this
      simp only [List.cons.injEq] at this
      exact this
    cases hn : impl_numbersOf.nums L with
    | none =>
      refine ⟨[], false, rfl, (fun h => by cases h), fun ns k => ?_⟩
      obtain ⟨_, e2⟩ := back ns k
      have := nums_yes ns k.1 L (by rw [hp.2, e2])
      rw [hn] at this; cases this
    | some l =>
      obtain ⟨ns, m1, rfl, m3⟩ := nums_some L l hn
      refine ⟨_, _, rfl, fun hb => ⟨ns, ⟨m1, ?_⟩, rfl⟩, fun ns' k => ?_⟩
      · have e : p = w := of_decide_eq_true hb
        rw [h2, ← hp.1, ← hp.2, m3, e]
      · obtain ⟨e1, _⟩ := back ns' k
        have : p = w := ba_ext' (by rw [hp.1, e1])
        simp [this]

def scan : Nat → Nat → List UInt8 → Nat × Nat
  | 0, v, _ => (0, v)
  | _ + 1, v, [] => (0, v)
  | f + 1, v, c :: l => if 48 ≤ c.toNat ∧ c.toNat ≤ 57 then ((scan f (10 * v + (c.toNat - 48)) l).1 + 1, (scan f (10 * v + (c.toNat - 48)) l).2) else (0, v)
theorem scan_le (f : Nat) : ∀ v l, (scan f v l).1 ≤ l.length := by
  induction f with
  | zero => intro v l; exact Nat.zero_le _
  | succ f ih =>
    intro v l
    cases l with
    | nil => exact Nat.le_refl _
    | cons c l =>
      unfold scan
      split
      · have := ih (10 * v + (c.toNat - 48)) l; simp only [List.length_cons]; omega
      · exact Nat.zero_le _
theorem scan_lt (f : Nat) : ∀ v l b, v < b → (scan f v l).2 < b * 10 ^ f := by
  induction f with
  | zero => intro v l b h; simpa [scan] using h
  | succ f ih =>
    intro v l b h
    have h10 : b ≤ b * 10 ^ (f + 1) := Nat.le_mul_of_pos_right _ (Nat.pow_pos (by omega))
    cases l with
    | nil => show v < _; omega
    | cons c l =>
      unfold scan
      split
      · have := ih (10 * v + (c.toNat - 48)) l (b * 10) (by omega)
        rw [Nat.pow_succ, Nat.mul_comm (10 ^ f) 10, ← Nat.mul_assoc]; exact this
      · show v < _; omega
def value (v : Nat) (l : List UInt8) : Nat := l.foldl (fun a c => 10 * a + (c.toNat - 48)) v
theorem scan_digits (ds : List UInt8) (rest : List UInt8) (hr : ∀ c, rest.head? = some c → ¬ (48 ≤ c.toNat ∧ c.toNat ≤ 57)) : ∀ f v, ds.length ≤ f → (∀ c ∈ ds, Digit c) → scan f v (ds ++ rest) = (ds.length, value v ds) := by
  induction ds with
  | nil =>
    intro f v _ _
    cases f with
    | zero => rfl
    | succ f =>
      cases rest with
      | nil => rfl
      | cons c r => show (if _ then _ else _) = _; rw [if_neg (hr c rfl)]; rfl
  | cons d ds ih =>
    intro f v hf hd
    cases f with
    | zero => simp at hf
    | succ f =>
      have h1 := hd d (List.mem_cons_self ..)
      unfold Digit at h1
      simp only [List.cons_append, scan]
      rw [if_pos h1, ih f _ (by simpa using hf) (fun c hc => hd c (List.mem_cons_of_mem _ hc))]
      rfl
theorem value_dec (n : Nat) : value 0 (Lib.decDigits n) = n := by
  induction n using Nat.strongRecOn with
  | ind n ih =>
    rw [Lib.decDigits]
    split
    · rename_i h
      show 10 * 0 + ((UInt8.ofNat (48 + n)).toNat - 48) = n
      rw [(digit_of n h).2]; omega
    · have := ih (n / 10) (by omega)
      unfold value at *
      rw [List.foldl_append, this]
      show 10 * (n / 10) + ((UInt8.ofNat (48 + n % 10)).toNat - 48) = n
      rw [(digit_of (n % 10) (by omega)).2]; omega
theorem dec_short (k : Nat) : ∀ n, n < 10 ^ (k + 1) → (Lib.decDigits n).length ≤ k + 1 := by
  induction k with
  | zero =>
    intro n h
    rw [Lib.decDigits, dif_pos (by simpa using h)]; simp
  | succ k ih =>
    intro n h
    rw [Lib.decDigits]
    split
    · simp
    · have := ih (n / 10) (by rw [Nat.pow_succ] at h; omega)
      rw [List.length_append]; simp only [List.length_cons, List.length_nil]; omega
theorem join_head (ds : List (List UInt8)) (c : UInt8) (h : (joinL ds).head? = some c) : ¬ (48 ≤ c.toNat ∧ c.toNat ≤ 57) := by
  cases ds with
  | nil => simp [joinL] at h
  | cons d ds =>
    have : c = 32 := by simpa [joinL] using h.symm
    rw [this]; decide
theorem scan_text (n : Nat) (hn : n ≤ 99999) (ds : List (List UInt8)) : scan 5 0 (Lib.decDigits n ++ joinL ds) = ((Lib.decDigits n).length, n) := by
  rw [scan_digits _ _ (join_head ds) 5 0 (dec_short 4 n (by omega)) (dec_digits n), value_dec]
/-- What the reader does once the digits are read. -/
def tailF (k : Nat) (s : ByteArray) (acc : List Int) (at_ from_ end_ v : Int) : Option (List Int × Bool) :=
  if 0 ≤ at_ then (if at_ < (s.size : Int) then (if (bt s at_) = 32 then (if end_ = from_ then (some ((([] : List Int)), false)) else (if 0 ≤ from_ then (if from_ ≤ end_ then (if end_ ≤ (s.size : Int) then ((spec_l6Dec.f k v).bind fun t => (if (s.extract (from_ : Int).toNat (end_ : Int).toNat).toList = t.toList then (if acc.length < 17592186044416 then (spec_l11Read.l0 k s (acc ++ [v]) end_) else (none)) else (some ((([] : List Int)), false)))) else (none)) else (none)) else (none))) else (some ((([] : List Int)), false))) else (none)) else (none)
theorem l1_eq (k : Nat) (s : ByteArray) (acc : List Int) (a f e v : Int) : spec_l11Read.l1 (k + 1) s acc a f e v = if e < (s.size : Int) then (if 0 ≤ e then (if (bt s e) ≥ 48 then (if (bt s e) ≤ 57 then (if (wrap64 (e - f)) < 5 then (spec_l11Read.l1 k s acc a f (wrap64 (e + 1)) (wrap64 ((wrap64 (10 * v)) + (((bt s e) - 48) % 256)))) else tailF k s acc a f e v) else tailF k s acc a f e v) else tailF k s acc a f e v) else none) else tailF k s acc a f e v := rfl
theorem scan_ev (s : ByteArray) (hs : s.size ≤ 1073741824) (acc : List Int) (p : Nat) (r : List Int × Bool) (f : Nat) : ∀ (e v : Nat), e ≤ s.size → e + f = p + 1 + 5 → p + 1 ≤ e → v < 10 ^ (5 - f) → f ≤ 5 →
    Ev (fun k => tailF k s acc (p : Int) ((p + 1 : Nat) : Int) ((e + (scan f v (s.data.toList.drop e)).1 : Nat) : Int) (((scan f v (s.data.toList.drop e)).2 : Nat) : Int)) r → Ev (fun k => spec_l11Read.l1 k s acc (p : Int) ((p + 1 : Nat) : Int) (e : Int) (v : Int)) r := by
  have hl := size_data s
  induction f with
  | zero =>
    intro e v he hf hp hv h5 h
    refine Ev.step (fun k => ?_) h
    rw [l1_eq]
    have hw : ¬ wrap64 ((e : Int) - ((p + 1 : Nat) : Int)) < 5 := by rw [wr (by omega) (by omega)]; omega
    by_cases c : (e : Int) < (s.size : Int)
    · rw [if_pos c, if_pos (by omega), if_neg hw]
      repeat' split
      all_goals rfl
    · rw [if_neg c]; rfl
  | succ f ih =>
    intro e v he hf hp hv h5 h
    by_cases c : e < s.size
    · have hd : s.data.toList.drop e = s.data.toList.getD e 0 :: s.data.toList.drop (e + 1) := drop_getD _ _ _ (by omega)
      have hb := bt_list s e c
      rw [hd] at h
      generalize s.data.toList.getD e 0 = ch at hb h
      have hw : wrap64 ((e : Int) - ((p + 1 : Nat) : Int)) < 5 := by rw [wr (by omega) (by omega)]; omega
      by_cases hc : 48 ≤ ch.toNat ∧ ch.toNat ≤ 57
      · have hv5 : v < 100000 := Nat.lt_of_lt_of_le hv (show 10 ^ (5 - (f + 1)) ≤ 10 ^ 5 from Nat.pow_le_pow_right (by omega) (by omega))
        have h2 : scan (f + 1) v (ch :: s.data.toList.drop (e + 1)) = ((scan f (10 * v + (ch.toNat - 48)) (s.data.toList.drop (e + 1))).1 + 1, (scan f (10 * v + (ch.toNat - 48)) (s.data.toList.drop (e + 1))).2) := by
          show (if _ then _ else _) = _
          rw [if_pos hc]
        rw [h2] at h
        have h3 := ih (e + 1) (10 * v + (ch.toNat - 48)) (by omega) (by omega) (by omega) (by
          have : 10 ^ (5 - f) = 10 * 10 ^ (5 - (f + 1)) := by rw [show 5 - f = (5 - (f + 1)) + 1 by omega, Nat.pow_succ, Nat.mul_comm]
          omega) (by omega) (by
          have e1 : e + 1 + (scan f (10 * v + (ch.toNat - 48)) (s.data.toList.drop (e + 1))).1 = e + ((scan f (10 * v + (ch.toNat - 48)) (s.data.toList.drop (e + 1))).1 + 1) := by omega
          rw [e1]; exact h)
        refine Ev.step (fun k => ?_) h3
        rw [l1_eq, hb, if_pos (by omega), if_pos (by omega), if_pos (by omega), if_pos (by omega), if_pos hw, wr1 (by omega), wr (x := 10 * (v : Int)) (by omega) (by omega), wr (by omega) (by omega)]
        congr 1
        omega
      · have h2 : scan (f + 1) v (ch :: s.data.toList.drop (e + 1)) = (0, v) := by
          show (if _ then _ else _) = _
          rw [if_neg hc]
        rw [h2] at h
        refine Ev.step (fun k => ?_) h
        rw [l1_eq, hb, if_pos (by omega), if_pos (by omega)]
        by_cases c1 : 48 ≤ ch.toNat
        · rw [if_pos (by omega), if_neg (by omega)]; rfl
        · rw [if_neg (by omega)]; rfl
    · have hd : s.data.toList.drop e = [] := List.drop_eq_nil_of_le (by omega)
      rw [hd] at h
      refine Ev.step (fun k => ?_) h
      rw [l1_eq, if_neg (by omega)]
      rfl
/-- From place p on. -/
theorem l11_l0 (s : ByteArray) (hs : s.size ≤ 1073741824) (m : Nat) : ∀ (p : Nat) (acc : List Int), p ≤ s.size → s.size - p ≤ m → acc.length ≤ p → ∃ (l : List Int) (b : Bool), Ev (fun k => spec_l11Read.l0 k s acc (p : Int)) (l, b) ∧
    (b = true → ∃ ns : List Nat, (∀ n ∈ ns, n ≤ 99999) ∧ l = acc ++ ns.map (fun y : Nat => (y : Int)) ∧ s.data.toList.drop p = joinL (ns.map Lib.decDigits)) ∧
    (∀ ns : List Nat, (∀ n ∈ ns, n ≤ 99999) → s.data.toList.drop p = joinL (ns.map Lib.decDigits) → b = true) := by
  have hl := size_data s
  induction m with
  | zero =>
    intro p acc hp hm ha
    refine ⟨acc, true, Ev.end fun k => ?_, fun _ => ⟨[], (fun n hn => by cases hn), by simp, by rw [List.drop_eq_nil_of_le (by omega)]; rfl⟩, fun _ _ _ => rfl⟩
    simp only [spec_l11Read.l0]
    rw [if_neg (by omega)]
  | succ m ih =>
    intro p acc hp hm ha
    by_cases hps : p < s.size
    · have hd : s.data.toList.drop p = s.data.toList.getD p 0 :: s.data.toList.drop (p + 1) := drop_getD _ _ _ (by omega)
      have hb := bt_list s p hps
      have sc1 := scan_le 5 0 (s.data.toList.drop (p + 1))
      have sc2 := scan_lt 5 0 (s.data.toList.drop (p + 1)) 1 (by omega)
      have key : ∀ ns : List Nat, (∀ n ∈ ns, n ≤ 99999) → s.data.toList.drop p = joinL (ns.map Lib.decDigits) → ∃ n ns', ns = n :: ns' ∧ s.data.toList.getD p 0 = 32 ∧ scan 5 0 (s.data.toList.drop (p + 1)) = ((Lib.decDigits n).length, n) ∧ s.data.toList.drop (p + 1) = Lib.decDigits n ++ joinL (ns'.map Lib.decDigits) := by
        intro ns h1 h2
        cases ns with
        | nil => rw [hd] at h2; simp [joinL] at h2
        | cons n ns' =>
          have e : joinL ((n :: ns').map Lib.decDigits) = 32 :: (Lib.decDigits n ++ joinL (ns'.map Lib.decDigits)) := rfl
          rw [hd, e] at h2
          simp only [List.cons.injEq] at h2
          exact ⟨n, ns', rfl, h2.1, by rw [h2.2]; exact scan_text n (h1 n (List.mem_cons_self ..)) _, h2.2⟩
      have fin : ∀ (l : List Int) (b : Bool), Ev (fun k => tailF k s acc (p : Int) ((p + 1 : Nat) : Int) ((p + 1 + (scan 5 0 (s.data.toList.drop (p + 1))).1 : Nat) : Int) (((scan 5 0 (s.data.toList.drop (p + 1))).2 : Nat) : Int)) (l, b) → Ev (fun k => spec_l11Read.l0 k s acc (p : Int)) (l, b) := by
        intro l b h
        have := scan_ev s hs acc p (l, b) 5 (p + 1) 0 (by omega) (by omega) (by omega) (by omega) (by omega) h
        refine Ev.step (fun k => ?_) this
        simp only [spec_l11Read.l0]
        rw [if_pos (by omega), wr1 (by omega)]
        rfl
      generalize hch : s.data.toList.getD p 0 = ch at hd hb key
      generalize hsc : scan 5 0 (s.data.toList.drop (p + 1)) = sc at sc1 sc2 key fin
      obtain ⟨cnt, v⟩ := sc
      simp only at sc1 sc2 fin
      rw [List.length_drop] at sc1
      have hv : v ≤ 99999 := by omega
      by_cases c1 : ch = 32
      · have hb2 : bt s (p : Int) = 32 := by rw [hb, c1]; rfl
        by_cases c2 : cnt = 0
        · refine ⟨[], false, fin _ _ (Ev.const fun k => ?_), (fun h => by cases h), fun ns h1 h2 => ?_⟩
          · unfold tailF
            rw [if_pos (by omega), if_pos (by omega), if_pos hb2, if_pos (by omega)]
          · obtain ⟨n, ns', _, _, e3, _⟩ := key ns h1 h2
            have := dec_ne_nil n
            simp only [Prod.mk.injEq] at e3
            have h0 : (Lib.decDigits n).length = 0 := by omega
            exact absurd (List.length_eq_zero_iff.1 h0) this
        · have hex : (s.extract (p + 1) (p + 1 + cnt)).data.toList = (s.data.toList.drop (p + 1)).take cnt := by
            rw [ext_list, List.drop_take]
            congr 1; omega
          have hlt : p + 1 + cnt ≤ s.size := by omega
          have tail_ : ∀ res : List Int × Bool, (if (s.extract (p + 1) (p + 1 + cnt)).toList = (dec v).toList then Ev (fun k => spec_l11Read.l0 k s (acc ++ [(v : Int)]) ((p + 1 + cnt : Nat) : Int)) res else res = ([], false)) → Ev (fun k => tailF k s acc (p : Int) ((p + 1 : Nat) : Int) ((p + 1 + cnt : Nat) : Int) (v : Int)) res := by
            intro res hres
            refine Ev.congr (fun k => (show tailF k s acc (p : Int) ((p + 1 : Nat) : Int) ((p + 1 + cnt : Nat) : Int) (v : Int) = (spec_l6Dec.f k (v : Int)).bind fun t => (if (s.extract (p + 1) (p + 1 + cnt)).toList = t.toList then (spec_l11Read.l0 k s (acc ++ [(v : Int)]) ((p + 1 + cnt : Nat) : Int)) else (some ((([] : List Int)), false))) by
              unfold tailF
              rw [if_pos (by omega), if_pos (by omega), if_pos hb2, if_neg (by omega), if_pos (by omega), if_pos (by omega), if_pos (by omega)]
              simp only [Int.toNat_natCast, if_pos (show acc.length < 17592186044416 by omega)])) ?_
            refine Ev.bind (dec_ev v (by omega)) ?_
            split at hres
            · rename_i he; simp only [if_pos he]; exact hres
            · rename_i he; simp only [if_neg he]; rw [hres]; exact Ev.now _
          by_cases c3 : (s.extract (p + 1) (p + 1 + cnt)).toList = (dec v).toList
          · obtain ⟨l, b, k1, k2, k3⟩ := ih (p + 1 + cnt) (acc ++ [(v : Int)]) (by omega) (by omega) (by rw [List.length_append]; simp; omega)
            have c4 : (s.data.toList.drop (p + 1)).take cnt = Lib.decDigits v := by
              rw [← hex, ← toList_eq, c3, toList_eq]; rfl
            have c5 : s.data.toList.drop (p + 1) = Lib.decDigits v ++ s.data.toList.drop (p + 1 + cnt) := by
              have e := (List.take_append_drop cnt (s.data.toList.drop (p + 1))).symm
              rw [List.drop_drop, c4] at e
              exact e
            refine ⟨l, b, fin _ _ (tail_ _ (by rw [if_pos c3]; exact k1)), fun hb3 => ?_, fun ns h1 h2 => ?_⟩
            · obtain ⟨ns, n1, n2, n3⟩ := k2 hb3
              refine ⟨v :: ns, fun x hx => ?_, by rw [n2]; simp, ?_⟩
              · rcases List.mem_cons.1 hx with e | e
                · omega
                · exact n1 x e
              · rw [hd, c5, n3, c1]; rfl
            · obtain ⟨n, ns', rfl, _, e3, e4⟩ := key ns h1 h2
              simp only [Prod.mk.injEq] at e3
              obtain ⟨e31, e32⟩ := e3
              subst e32
              refine k3 ns' (fun x hx => h1 x (List.mem_cons_of_mem _ hx)) ?_
              rw [c5] at e4
              exact List.append_cancel_left e4
          · refine ⟨[], false, fin _ _ (tail_ _ (by rw [if_neg c3])), (fun h => by cases h), fun ns h1 h2 => ?_⟩
            obtain ⟨n, ns', rfl, _, e3, e4⟩ := key ns h1 h2
            simp only [Prod.mk.injEq] at e3
            obtain ⟨e31, e32⟩ := e3
            refine absurd ?_ c3
            rw [toList_eq, toList_eq, hex, e4, e31, e32]
            simp [dec]
      · refine ⟨[], false, fin _ _ (Ev.const fun k => ?_), (fun h => by cases h), fun ns h1 h2 => ?_⟩
        · unfold tailF
          have hb2 : ¬ bt s (p : Int) = 32 := by
            rw [hb]
            intro e
            refine c1 ?_
            have : ch.toNat = 32 := by omega
            exact UInt8.toNat_inj.1 this
          rw [if_pos (by omega), if_pos (by omega), if_neg hb2]
        · obtain ⟨n, ns', _, e, _⟩ := key ns h1 h2
          exact absurd e c1
    · obtain rfl : p = s.size := by omega
      refine ⟨acc, true, Ev.end fun k => ?_, fun _ => ⟨[], (fun n hn => by cases hn), by simp, by rw [List.drop_eq_nil_of_le (by omega)]; rfl⟩, fun _ _ _ => rfl⟩
      simp only [spec_l11Read.l0]
      rw [if_neg (by omega)]
/-- The reference's reader: a list and true just where the text says it. -/
theorem l11Read_is (s w : ByteArray) (hs : s.size ≤ 1073741824) (hws : w.size ≤ 1000) : ∃ (l : List Int) (b : Bool), Ev (fun k => spec_l11Read.f k s w) (l, b) ∧ (b = true → ∃ ns, Says s.data.toList w.data.toList ns ∧ l = ns.map fun y : Nat => (y : Int)) ∧ ∀ ns, Says s.data.toList w.data.toList ns → b = true := by
  have hl := size_data s
  have hlw := size_data w
  have no : ∀ ns, Says s.data.toList w.data.toList ns → w.size ≤ s.size ∧ s.data.toList.take w.size = w.data.toList := by
    intro ns h
    have e := h.2
    constructor
    · rw [← hl, e, List.length_append, hlw]; omega
    · rw [e, ← hlw]; simp
  by_cases c : (s.size : Int) < (w.size : Int)
  · refine ⟨[], false, ?_, (fun h => by cases h), fun ns h => by have := (no ns h).1; omega⟩
    unfold spec_l11Read.f
    simp only [Option.bind_some, if_pos c]
    exact Ev.end fun k => by simp only [spec_l11Read.j0, if_true]
  · have st : ∀ r, Ev (fun k => spec_l11Read.j0 k s w [] ((s.extract 0 w.size).toList != w.toList)) r → Ev (fun k => spec_l11Read.f k s w) r := by
      intro r h
      unfold spec_l11Read.f
      simp only [Option.bind_some, if_neg c, if_pos (show 0 ≤ (w.size : Int) by omega), if_pos (show (w.size : Int) ≤ (s.size : Int) by omega), Int.toNat_natCast]
      exact h
    by_cases c2 : (s.extract 0 w.size).toList = w.toList
    · obtain ⟨l, b, k1, k2, k3⟩ := l11_l0 s hs s.size w.size [] (by omega) (by omega) (Nat.zero_le _)
      have c3 : s.data.toList.take w.size = w.data.toList := by
        rw [toList_eq, toList_eq, ext_list] at c2
        simpa using c2
      have c4 : s.data.toList = w.data.toList ++ s.data.toList.drop w.size := by
        rw [← c3]; exact (List.take_append_drop w.size _).symm
      refine ⟨l, b, st _ ?_, fun hb => ?_, fun ns h => ?_⟩
      · have e : ((s.extract 0 w.size).toList != w.toList) = false := by simp [c2]
        rw [e]
        exact Ev.step (fun k => by simp only [spec_l11Read.j0, Bool.false_eq_true, if_false]) k1
      · obtain ⟨ns, n1, n2, n3⟩ := k2 hb
        exact ⟨ns, ⟨n1, by rw [← n3]; exact c4⟩, by simpa using n2⟩
      · refine k3 ns h.1 ?_
        have := h.2
        rw [c4] at this
        exact List.append_cancel_left this
    · refine ⟨[], false, st _ ?_, (fun h => by cases h), fun ns h => ?_⟩
      · have e : ((s.extract 0 w.size).toList != w.toList) = true := by simp [c2]
        rw [e]
        exact Ev.end fun k => by simp only [spec_l11Read.j0, if_true]
      · refine absurd ?_ c2
        rw [toList_eq, toList_eq, ext_list, (no ns h).2]
        simp


def sumW : ByteArray := ⟨#[115, 117, 109]⟩
/-- All numbers are of the set and not 0, and their sum is n. -/
def okSum (f : Nat → Bool) (n : Int) : List Nat → Nat → Bool
  | [], a => ((a : Nat) : Int) == n
  | k :: l, a => if k = 0 then false else if f k = true then okSum f n l (a + k) else false
theorem says_len {s w : List UInt8} {ns : List Nat} (h : Says s w ns) : ns.length ≤ s.length := by
  rw [h.2, List.length_append]
  suffices all : ∀ ns : List Nat, ns.length ≤ (joinL (ns.map Lib.decDigits)).length by have := all ns; omega
  intro ns
  induction ns with
  | nil => exact Nat.le_refl _
  | cons n ns ih =>
    show _ ≤ (32 :: (Lib.decDigits n ++ joinL (ns.map Lib.decDigits))).length
    simp only [List.length_cons, List.length_append]; omega
theorem says_inj {s w : List UInt8} {ns ns' : List Nat} (hw : ∀ c ∈ w, c ≠ 32) (h : Says s w ns) (h' : Says s w ns') : ns = ns' := by
  have dn : ∀ ms : List Nat, ∀ d ∈ ms.map Lib.decDigits, ∀ c ∈ d, c ≠ 32 := fun ms d hd c hc => by
    obtain ⟨n, _, rfl⟩ := List.mem_map.1 hd
    exact dec_nospace n c hc
  have e1 := cut_text w (ns.map Lib.decDigits) hw (dn ns)
  have e2 := cut_text w (ns'.map Lib.decDigits) hw (dn ns')
  rw [← h.2] at e1
  rw [← h'.2, e1] at e2
  simp only [List.cons.injEq, true_and] at e2
  have inj : ∀ n m : Nat, Lib.decDigits n = Lib.decDigits m → n = m := fun n m e => by rw [← value_dec n, e, value_dec]
  clear e1 h h' dn
  induction ns generalizing ns' with
  | nil => cases ns' with | nil => rfl | cons _ _ => simp at e2
  | cons n ns ih =>
    cases ns' with
    | nil => simp at e2
    | cons m ns' =>
      simp only [List.map_cons, List.cons.injEq] at e2
      rw [inj n m e2.1, ih e2.2]
theorem sumIs_l0 {t r : List Bool} (g : Good t r) (n : Int) (ns : List Nat) (hb : ∀ x ∈ ns, x ≤ 99999) (hl : ns.length ≤ 1073741824) (d : Nat) : ∀ (i a : Nat), i + d = ns.length → a ≤ 99999 * i →
    Ev (fun k => impl_ProofSumIs.l0 k n (a : Int) (ns.map fun y : Nat => (y : Int)) (ns.length : Nat) (i : Nat) t r) (okSum (hasB t r) n (ns.drop i) a) ∧ Ev (fun k => spec_ProofSumIs.l0 k n (ns.map fun y : Nat => (y : Int)) (a : Int) (i : Nat) t r) (okSum (hasB t r) n (ns.drop i) a) := by
  induction d with
  | zero =>
    intro i a hi ha
    rw [List.drop_eq_nil_of_le (by omega)]
    constructor
    · refine Ev.end fun k => ?_
      simp only [impl_ProofSumIs.l0]
      rw [if_neg (by omega)]; rfl
    · refine Ev.end fun k => ?_
      simp only [spec_ProofSumIs.l0, List.length_map]
      rw [if_neg (by omega)]; rfl
  | succ d ih =>
    intro i a hi ha
    have hil : i < ns.length := by omega
    have hm := hb ns[i] (List.getElem_mem hil)
    have e : ns.drop i = ns[i] :: ns.drop (i + 1) := (List.getElem_cons_drop hil).symm
    obtain ⟨k1, k2⟩ := ih (i + 1) (a + ns[i]) (by omega) (by omega)
    have h1 := set_has g ns[i] (by omega)
    have h2 := l1_has g ns[i] (by omega)
    have hr := rd_at ns i hil
    have hw : wrap64 ((a : Int) + ((ns[i] : Nat) : Int)) = ((a + ns[i] : Nat) : Int) := by rw [wr (by omega) (by omega)]; omega
    rw [e]
    generalize ns[i] = m at *
    simp only [okSum]
    by_cases c0 : m = 0
    · rw [if_pos c0]
      constructor
      · refine Ev.end fun k => ?_
        simp only [impl_ProofSumIs.l0, List.length_map]
        rw [if_pos (by omega), if_pos (by omega), if_pos (by omega), hr, if_pos (by omega)]
      · refine Ev.end fun k => ?_
        simp only [spec_ProofSumIs.l0, List.length_map]
        rw [if_pos (by omega), if_pos (by omega), hr, if_pos (by omega)]
    · rw [if_neg c0]
      cases hc : hasB t r m with
      | true =>
        rw [hc] at h1 h2
        simp only [if_true]
        constructor
        · refine Ev.step (fun k => ?_) k1
          simp only [impl_ProofSumIs.l0, List.length_map]
          rw [if_pos (by omega), if_pos (by omega), if_pos (by omega), hr, if_neg (by omega), h1]
          simp only [Option.bind_some, if_true]
          rw [hw, wr1 (by omega)]
        · refine Ev.step (fun k => ?_) k2
          simp only [spec_ProofSumIs.l0, List.length_map]
          rw [if_pos (by omega), if_pos (by omega), hr, if_neg (by omega), h2]
          simp only [Option.bind_some, if_true]
          rw [hw, wr1 (by omega)]
      | false =>
        rw [hc] at h1 h2
        simp only [Bool.false_eq_true, if_false]
        constructor
        · refine Ev.end fun k => ?_
          simp only [impl_ProofSumIs.l0, List.length_map]
          rw [if_pos (by omega), if_pos (by omega), if_pos (by omega), hr, if_neg (by omega), h1]
          simp
        · refine Ev.end fun k => ?_
          simp only [spec_ProofSumIs.l0, List.length_map]
          rw [if_pos (by omega), if_pos (by omega), hr, if_neg (by omega), h2]
          simp
theorem sumW_nospace : ∀ c ∈ sumW.data.toList, c ≠ 32 := by decide
/-- Both functions answer alike. -/
theorem proofSumIs_both (s : ByteArray) (n : Int) (x : ByteArray) (hs : s.size ≤ 1073741824) (hx : x.size ≤ 1073741824) : ∃ b : Bool, Ev (fun k => impl_ProofSumIs.f k s n x) b ∧ Ev (fun k => spec_ProofSumIs.f k s n x) b := by
  obtain ⟨l, b, e1, i1, i2⟩ := numbersOf_is x sumW hx sumW_nospace
  obtain ⟨l', b', e2, j1, j2⟩ := l11Read_is x sumW hx (by decide)
  have f1 : ∀ (y : Bool) L a c, y = true → Ev (fun k => impl_ProofSumIs.j0 k n L y a c) false := fun y L a c h => Ev.end fun k => by simp only [impl_ProofSumIs.j0]; rw [if_pos h]
  have f2 : ∀ (y : Bool) L a c, y = true → Ev (fun k => spec_ProofSumIs.j0 k n L y a c) false := fun y L a c h => Ev.end fun k => by simp only [spec_ProofSumIs.j0]; rw [if_pos h]
  have st1 : ∀ (a c : List Bool) (o r : Bool), Ev (fun k => impl_small.f k s) (a, c, o) → Ev (fun k => if o = true then impl_ProofSumIs.j0 k n l (!b) a c else impl_ProofSumIs.j0 k n l true a c) r → Ev (fun k => impl_ProofSumIs.f k s n x) r := by
    intro a c o r h1 h2
    unfold impl_ProofSumIs.f
    refine Ev.bind h1 (Ev.bind (Ev.const fun _ => e1) ?_)
    exact h2
  have st2 : ∀ (a c : List Bool) (o r : Bool), Ev (fun k => spec_l4Small.f k s) (a, c, o) → Ev (fun k => if o = true then spec_ProofSumIs.j0 k n l' (!b') a c else spec_ProofSumIs.j0 k n l' true a c) r → Ev (fun k => spec_ProofSumIs.f k s n x) r := by
    intro a c o r h1 h2
    unfold spec_ProofSumIs.f
    refine Ev.bind h1 (Ev.bind e2 ?_)
    exact h2
  rcases small_cases s hs with g | ⟨t, r, g⟩
  · obtain ⟨⟨a, c, h1⟩, ⟨a', c', h2⟩⟩ := g
    exact ⟨false, st1 _ _ _ _ h1 (by simp only [Bool.false_eq_true, if_false]; exact f1 _ _ _ _ rfl), st2 _ _ _ _ h2 (by simp only [Bool.false_eq_true, if_false]; exact f2 _ _ _ _ rfl)⟩
  · by_cases hb : b = true
    · obtain ⟨ns, n1, rfl⟩ := i1 hb
      have hb' := j2 ns n1
      obtain ⟨ns', m1, rfl⟩ := j1 hb'
      obtain rfl := says_inj sumW_nospace n1 m1
      have hlen := says_len n1
      rw [size_data] at hlen
      subst hb hb'
      obtain ⟨k1, k2⟩ := sumIs_l0 g.good n ns n1.1 (by omega) ns.length 0 0 (by omega) (by omega)
      refine ⟨okSum (hasB t r) n (ns.drop 0) 0, st1 _ _ _ _ g.impl ?_, st2 _ _ _ _ g.spec ?_⟩
      · simp only [if_true, Bool.not_true]
        refine Ev.step (fun k => ?_) k1
        simp only [impl_ProofSumIs.j0, Bool.false_eq_true, if_false, List.length_map]
        rfl
      · simp only [if_true, Bool.not_true]
        refine Ev.step (fun k => ?_) k2
        simp only [spec_ProofSumIs.j0, Bool.false_eq_true, if_false]
        rfl
    · have hb' : b' = false := by
        cases h : b' with
        | false => rfl
        | true =>
          obtain ⟨ns', m1, _⟩ := j1 h
          exact absurd (i2 ns' m1) hb
      have hbf : b = false := by cases h : b with | false => rfl | true => exact absurd h hb
      subst hbf hb'
      exact ⟨false, st1 _ _ _ _ g.impl (by simp only [if_true, Bool.not_false]; exact f1 _ _ _ _ rfl), st2 _ _ _ _ g.spec (by simp only [if_true, Bool.not_false]; exact f2 _ _ _ _ rfl)⟩


theorem indexFunc_l0 (l : List Int) (q : Int → Bool) (hl : l.length ≤ 1000000) (d : Nat) : ∀ i, i + d = l.length → ∃ r : Int, Ev (fun k => slices_IndexFunc_int_int.l0 (fun n => some (q n)) k l (l.length : Nat) (i : Nat)) r ∧ (0 ≤ r ↔ ∃ j, i ≤ j ∧ j < l.length ∧ q (rd l (j : Int)) = true) := by
  induction d with
  | zero =>
    intro i hi
    refine ⟨-1, Ev.end fun k => ?_, ⟨fun h => absurd h (by omega), fun ⟨j, h1, h2, _⟩ => by omega⟩⟩
    simp only [slices_IndexFunc_int_int.l0]
    rw [if_neg (by omega)]
  | succ d ih =>
    intro i hi
    by_cases c : q (rd l (i : Int)) = true
    · refine ⟨(i : Int), Ev.end fun k => ?_, ⟨fun _ => ⟨i, Nat.le_refl _, by omega, c⟩, fun _ => by omega⟩⟩
      simp only [slices_IndexFunc_int_int.l0]
      rw [if_pos (by omega), if_pos (by omega), if_pos (by omega)]
      simp only [Option.bind_some, c, if_true]
    · obtain ⟨r, k1, k2⟩ := ih (i + 1) (by omega)
      refine ⟨r, Ev.step (fun k => ?_) k1, k2.trans ⟨fun ⟨j, h1, h2, h3⟩ => ⟨j, by omega, h2, h3⟩, fun ⟨j, h1, h2, h3⟩ => ?_⟩⟩
      · simp only [slices_IndexFunc_int_int.l0]
        rw [if_pos (by omega), if_pos (by omega), if_pos (by omega)]
        simp only [Option.bind_some, c, Bool.false_eq_true, if_false]
        rw [wr1 (by omega)]
      · rcases Nat.eq_or_lt_of_le h1 with e | e
        · subst e; exact absurd h3 c
        · exact ⟨j, e, h2, h3⟩
theorem containsFunc_ev (l : List Int) (q : Int → Bool) (hl : l.length ≤ 1000000) : ∃ b : Bool, Ev (fun k => slices_ContainsFunc_int_int.f k l (fun n => some (q n))) b ∧ (b = true ↔ ∃ j, j < l.length ∧ q (rd l (j : Int)) = true) := by
  obtain ⟨r, k1, k2⟩ := indexFunc_l0 l q hl l.length 0 (by omega)
  refine ⟨decide (0 ≤ r), ?_, ?_⟩
  · unfold slices_ContainsFunc_int_int.f slices_IndexFunc_int_int.f
    exact Ev.bind k1 (Ev.const fun k => by simp [ge_iff_le])
  · rw [decide_eq_true_iff, k2]
    exact ⟨fun ⟨j, _, h2, h3⟩ => ⟨j, h2, h3⟩, fun ⟨j, h2, h3⟩ => ⟨j, Nat.zero_le _, h2, h3⟩⟩
theorem all_mult {t r : List Bool} (g : Good t r) (ht : t.length ≤ 8) (hr : r.length ≤ 8) (c : Nat) (hc : 1 ≤ c) : (∃ j, j < (listM (hasB t r) (t.length + 2 * r.length)).length ∧ (Int.tmod (rd (listM (hasB t r) (t.length + 2 * r.length)) (j : Int)) (c : Int) != 0) = true) ↔ gcdB (hasB t r) 40 % c ≠ 0 := by
  rw [← gcdB_eq g.pos _ 40 (Nat.le_refl (t.length + 2 * r.length)) (by omega)]
  constructor
  · rintro ⟨j, h1, h2⟩ h3
    obtain ⟨m, m1, m2, m3⟩ := listM_append_at _ _ j h1
    rw [m3, tmod_nat] at h2
    have h4 : m % c = 0 := Nat.mod_eq_zero_of_dvd (Nat.dvd_trans (Nat.dvd_of_mod_eq_zero h3) (gcdB_dvd _ _ m m1 m2))
    rw [h4] at h2
    simp at h2
  · intro h
    refine Decidable.byContradiction fun hn => h (Nat.mod_eq_zero_of_dvd (dvd_gcdB _ c _ fun m m1 m2 => ?_))
    obtain ⟨i, i1, i2⟩ := listM_mem _ _ m m1 m2
    refine Nat.dvd_of_mod_eq_zero (Decidable.byContradiction fun k => hn ⟨i, i1, ?_⟩)
    rw [i2, tmod_nat]
    simp; omega

def restW : ByteArray := ⟨#[114, 101, 115, 116]⟩
theorem restW_nospace : ∀ c ∈ restW.data.toList, c ≠ 32 := by decide
/-- What both answer on a small set and a text that says one number. -/
def restOk (D : Nat) (n : Nat) (c : Nat) : Bool := decide (D % c = 0) && (Int.tmod (n : Int) (c : Int) != 0)
/-- Both functions answer alike; true: the text says one number that is no less than 2, divides all numbers of the set, and does not divide n. -/
theorem proofRestIs_both (s : ByteArray) (n : Int) (x : ByteArray) (hs : s.size ≤ 1073741824) (hx : x.size ≤ 1073741824) : ∃ b : Bool, Ev (fun k => impl_ProofRestIs.f k s n x) b ∧ Ev (fun k => spec_ProofRestIs.f k s n x) b ∧
    (b = true → ∃ t r, IsSmall s t r ∧ 1 ≤ n ∧ n ≤ 1000 ∧ ∃ c : Nat, 2 ≤ c ∧ gcdB (hasB t r) 40 % c = 0 ∧ n.toNat % c ≠ 0) ∧
    (∀ t r, IsSmall s t r → 1 ≤ n → n ≤ 1000 → ∀ c : Nat, 2 ≤ c → Says x.data.toList restW.data.toList [c] → gcdB (hasB t r) 40 % c = 0 → n.toNat % c ≠ 0 → b = true) := by
  obtain ⟨l, b, e1, i1, i2⟩ := numbersOf_is x restW hx restW_nospace
  obtain ⟨l', b', e2, j1, j2⟩ := l11Read_is x restW hx (by decide)
  have in1 : impl_in.f n 1 1000 = some (decide (1 ≤ n ∧ n ≤ 1000)) := in_eq' _ _ _
  have in2 : spec_l6In.f n 1 1000 = some (decide (1 ≤ n ∧ n ≤ 1000)) := l6In_eq' _ _ _
  rcases small_cases s hs with g | ⟨t, r, g⟩
  · obtain ⟨⟨a, c, h1⟩, ⟨a', c', h2⟩⟩ := g
    refine ⟨false, ?_, ?_, (fun h => by cases h), fun t r g => ?_⟩
    · unfold impl_ProofRestIs.f
      refine Ev.bind h1 (Ev.bind (Ev.const fun _ => e1) ?_)
      simp only [Bool.false_eq_true, if_false]
      exact Ev.now _
    · unfold spec_ProofRestIs.f
      refine Ev.bind h2 (Ev.bind e2 ?_)
      simp only [Bool.false_eq_true, if_false]
      exact Ev.now _
    · have := Ev.unique h1 g.impl
      simp at this
  · have key : b = b' ∧ (b = true → ∃ ns, Says x.data.toList restW.data.toList ns ∧ l = ns.map (fun y : Nat => (y : Int)) ∧ l' = ns.map fun y : Nat => (y : Int)) := by
      cases hb : b with
      | true =>
        obtain ⟨ns, n1, n2⟩ := i1 hb
        have hb' := j2 ns n1
        obtain ⟨ns', m1, m2⟩ := j1 hb'
        obtain rfl := says_inj restW_nospace n1 m1
        exact ⟨hb'.symm, fun _ => ⟨ns, n1, n2, m2⟩⟩
      | false =>
        refine ⟨?_, (fun h => by cases h)⟩
        cases hb' : b' with
        | false => rfl
        | true =>
          obtain ⟨ns', m1, _⟩ := j1 hb'
          have := i2 ns' m1
          rw [hb] at this; exact this
    obtain ⟨rfl, kl⟩ := key
    have st1 : ∀ z, Ev (fun k => if b = true then (impl_in.f n 1 1000).bind fun t' => (if t' = true then (if l.length = 1 then (if rd l 0 < 2 then some false else
      (impl_set_below.f k t r (wrap64 ((t.length : Int) + wrap64 (2 * (r.length : Int))))).bind fun l2 => (slices_ContainsFunc_int_int.f k l2 (impl_ProofRestIs.wrong (rd l 0))).bind fun o => some (!o && (Int.tmod n (rd l 0) != 0)))
      else some false) else some false) else some false) z → Ev (fun k => impl_ProofRestIs.f k s n x) z := by
      intro z h
      unfold impl_ProofRestIs.f
      refine Ev.bind g.impl (Ev.bind (Ev.const fun _ => e1) ?_)
      simp only [if_true]
      exact h
    have st2 : ∀ z, Ev (fun k => if b = true then (if (l'.length : Int) = 1 then (if 0 < (l'.length : Int) then (if (rd l' 0) < 2 then (some false) else ((spec_l6In.f n 1 1000).bind fun t535 => (if t535 = true then ((spec_l11Common.f k t r).bind fun t536 => (if (rd l' 0) = 0 then (none) else (if (Int.tmod t536 (rd l' 0)) = 0 then (some ((Int.tmod n (rd l' 0)) != 0)) else (some false)))) else (some false)))) else (none)) else (some false)) else (some false)) z → Ev (fun k => spec_ProofRestIs.f k s n x) z := by
      intro z h
      unfold spec_ProofRestIs.f
      refine Ev.bind g.spec (Ev.bind e2 ?_)
      simp only [if_true]
      exact h
    have uni : ∀ t' r', IsSmall s t' r' → t' = t ∧ r' = r := by
      intro t' r' g'
      have := Ev.unique g.impl g'.impl
      simp only [Prod.mk.injEq] at this
      exact ⟨this.1.symm, this.2.1.symm⟩
    have out : (∀ ns, Says x.data.toList restW.data.toList ns → ¬ (∃ c, ns = [c] ∧ 2 ≤ c ∧ 1 ≤ n ∧ n ≤ 1000)) → Ev (fun k => impl_ProofRestIs.f k s n x) false → Ev (fun k => spec_ProofRestIs.f k s n x) false → ∃ b : Bool, Ev (fun k => impl_ProofRestIs.f k s n x) b ∧ Ev (fun k => spec_ProofRestIs.f k s n x) b ∧
      (b = true → ∃ t r, IsSmall s t r ∧ 1 ≤ n ∧ n ≤ 1000 ∧ ∃ c : Nat, 2 ≤ c ∧ gcdB (hasB t r) 40 % c = 0 ∧ n.toNat % c ≠ 0) ∧
      (∀ t r, IsSmall s t r → 1 ≤ n → n ≤ 1000 → ∀ c : Nat, 2 ≤ c → Says x.data.toList restW.data.toList [c] → gcdB (hasB t r) 40 % c = 0 → n.toNat % c ≠ 0 → b = true) :=
      fun hno a1 a2 => ⟨false, a1, a2, (fun h => by cases h), fun t' r' _ n1 n2 c hc hsay _ _ => absurd ⟨c, rfl, hc, n1, n2⟩ (hno [c] hsay)⟩
    by_cases hb : b = true
    · obtain ⟨ns, n1, rfl, rfl⟩ := kl hb
      subst hb
      by_cases hlen : ns.length = 1
      · obtain ⟨c, rfl⟩ : ∃ c, ns = [c] := by
          match ns, hlen with
          | [c], _ => exact ⟨c, rfl⟩
        have hr : rd ([c].map fun y : Nat => (y : Int)) 0 = (c : Int) := rfl
        by_cases hc : c < 2
        · refine out (fun ns h ⟨d, e, h2, _⟩ => ?_) (st1 _ (Ev.const fun k => ?_)) (st2 _ (Ev.const fun k => ?_))
          · have := says_inj restW_nospace n1 h
            rw [e] at this
            simp at this; omega
          · simp only [if_true, in1, Option.bind_some, hr]
            rw [if_pos (show (c : Int) < 2 by omega)]
            simp
          · simp only [if_true, hr]
            rw [if_pos (by simp), if_pos (by simp), if_pos (by omega)]
        · by_cases hn : 1 ≤ n ∧ n ≤ 1000
          · obtain ⟨m, rfl⟩ : ∃ m : Nat, n = (m : Int) := ⟨n.toNat, by omega⟩
            have gp := g.good
            have tl := g.tl
            have rl := g.rl
            have ew : wrap64 ((t.length : Int) + wrap64 (2 * (r.length : Int))) = ((t.length + 2 * r.length : Nat) : Int) := by
              rw [wr (x := 2 * (r.length : Int)) (by omega) (by omega), wr (by omega) (by omega)]; omega
            have hb1 := below_ev gp (t.length + 2 * r.length) (by omega)
            have hll := listM_length_le (hasB t r) (t.length + 2 * r.length)
            obtain ⟨o, o1, o2⟩ := containsFunc_ev (listM (hasB t r) (t.length + 2 * r.length)) (fun y => Int.tmod y (c : Int) != 0) (by omega)
            have o3 := o2.trans (all_mult gp tl rl c (by omega))
            have hD := common_ev gp
            have heq : (!o && (Int.tmod (m : Int) (c : Int) != 0)) = restOk (gcdB (hasB t r) 40) m c := by
              unfold restOk
              congr 1
              cases o with
              | true => have := o3.1 rfl; rw [decide_eq_false this]; rfl
              | false => rw [decide_eq_true (Decidable.byContradiction fun h => by have := o3.2 h; cases this)]; rfl
            have hz : restOk (gcdB (hasB t r) 40) m c = true ↔ gcdB (hasB t r) 40 % c = 0 ∧ m % c ≠ 0 := by
              unfold restOk
              rw [tmod_nat, Bool.and_eq_true, decide_eq_true_iff, bne_iff_ne]
              constructor
              · rintro ⟨a, b⟩; exact ⟨a, fun e => b (by rw [e]; rfl)⟩
              · rintro ⟨a, b⟩; exact ⟨a, fun e => b (by omega)⟩
            refine ⟨restOk (gcdB (hasB t r) 40) m c, st1 _ ?_, st2 _ ?_, fun h => ?_, fun t' r' g' _ _ d hd hsay h1 h2 => ?_⟩
            · simp only [if_true, in1, decide_eq_true hn, Option.bind_some, hr, ew]
              refine Ev.eq (funext fun k => if_pos rfl) (Ev.eq (funext fun k => if_neg (by omega)) (Ev.bind hb1 (Ev.bind o1 (Ev.const fun k => ?_))))
              rw [heq]
            · simp only [if_true, in2, decide_eq_true hn, Option.bind_some, hr]
              refine Ev.eq (funext fun k => if_pos rfl) (Ev.eq (funext fun k => if_pos (by simp)) (Ev.eq (funext fun k => if_neg (by omega)) (Ev.bind hD (Ev.const fun k => ?_))))
              rw [if_neg (by omega), tmod_nat]
              unfold restOk
              by_cases h0 : gcdB (hasB t r) 40 % c = 0
              · rw [if_pos (by omega), decide_eq_true h0, Bool.true_and]
              · rw [if_neg (by omega), decide_eq_false h0, Bool.false_and]
            · obtain ⟨h1, h2⟩ := hz.1 h
              exact ⟨t, r, g, hn.1, hn.2, c, by omega, h1, by simpa using h2⟩
            · obtain ⟨rfl, rfl⟩ := uni t' r' g'
              have := says_inj restW_nospace n1 hsay
              simp only [List.cons.injEq, and_true] at this
              subst this
              exact hz.2 ⟨h1, by simpa using h2⟩
          · refine out (fun ns h ⟨d, e, _, h3⟩ => hn h3) (st1 _ (Ev.const fun k => ?_)) (st2 _ (Ev.const fun k => ?_))
            · simp only [if_true, in1, decide_eq_false hn, Option.bind_some, Bool.false_eq_true, if_false]
            · simp only [if_true, in2, decide_eq_false hn, Option.bind_some, Bool.false_eq_true, if_false, hr]
              rw [if_pos (by simp), if_pos (by simp), if_neg (by omega)]
      · refine out (fun ns' h ⟨d, e, _⟩ => ?_) (st1 _ (Ev.const fun k => ?_)) (st2 _ (Ev.const fun k => ?_))
        · have := says_inj restW_nospace n1 h
          rw [this, e] at hlen
          exact hlen rfl
        · simp only [if_true, in1, Option.bind_some, List.length_map, if_neg hlen]
          split <;> rfl
        · simp only [if_true, List.length_map]
          rw [if_neg (by omega)]
    · have hbf : b = false := by cases h : b with | false => rfl | true => exact absurd h hb
      subst hbf
      refine out (fun ns h _ => hb (i2 ns h)) (st1 _ (Ev.const fun k => ?_)) (st2 _ (Ev.const fun k => ?_))
      · simp only [Bool.false_eq_true, if_false]
      · simp only [Bool.false_eq_true, if_false]


theorem sumIs_text {s : ByteArray} {t r : List Bool} (g : IsSmall s t r) (n : Int) (x : ByteArray) (hx : x.size ≤ 1073741824) (ns : List Nat) (h : Says x.data.toList sumW.data.toList ns) : Ev (fun k => impl_ProofSumIs.f k s n x) (okSum (hasB t r) n ns 0) := by
  obtain ⟨l, b, e1, i1, i2⟩ := numbersOf_is x sumW hx sumW_nospace
  have hb := i2 ns h
  subst hb
  obtain ⟨ns', n1, rfl⟩ := i1 rfl
  obtain rfl := says_inj sumW_nospace h n1
  have hlen := says_len n1
  rw [size_data] at hlen
  obtain ⟨k1, _⟩ := sumIs_l0 g.good n ns n1.1 (by omega) ns.length 0 0 (by omega) (by omega)
  unfold impl_ProofSumIs.f
  refine Ev.bind g.impl (Ev.bind (Ev.const fun _ => e1) ?_)
  simp only [if_true, Bool.not_true]
  refine Ev.step (fun k => ?_) k1
  simp only [impl_ProofSumIs.j0, Bool.false_eq_true, if_false, List.length_map]
  rfl

theorem rdOf_size {L : List ByteArray} {N : Nat} (h : ∀ x ∈ L, x.size ≤ N) (i : Nat) (hi : i < L.length) : (rdOf ByteArray.empty L (i : Int)).size ≤ N := by
  have e : rdOf ByteArray.empty L (i : Int) = L[i] := by simp [rdOf, List.getD, hi]
  rw [e]
  exact h _ (List.getElem_mem hi)
theorem proof_draw {bs : List Int} (h : Bs bs) (p : Nat) (hp : p ≤ 100000) : ∃ (x : ByteArray) (q : Nat), x.size ≤ 200 ∧ Ev (fun k => spec_l91Proof.f k bs p) (x, (q : Int)) := by
  obtain ⟨v, hv, e1⟩ := pick_ev h p 30 (by omega) (by omega) (by omega)
  have e2 := dec_ev v (by omega)
  have hs := dec_size v
  obtain ⟨j, hj, e3⟩ := pick_ev h (p + 1) 11 (by omega) (by omega) (by omega)
  generalize dec v = d at *
  refine ⟨_, p + 1 + 1, rdOf_size (L := [(⟨#[102, 105, 114, 115, 116, 32]⟩ : ByteArray) ++ d, (⟨#[115, 101, 99, 111, 110, 100, 32]⟩ : ByteArray) ++ d, (⟨#[115, 117, 109, 32]⟩ : ByteArray) ++ d, (((⟨#[115, 117, 109, 32]⟩ : ByteArray) ++ d) ++ (⟨#[32]⟩ : ByteArray)) ++ d, (⟨#[115, 117, 109]⟩ : ByteArray), (⟨#[114, 101, 115, 116, 32]⟩ : ByteArray) ++ d, (⟨#[114, 101, 115, 116, 32, 50]⟩ : ByteArray), (⟨#[102, 105, 114, 115, 116]⟩ : ByteArray), (⟨#[115, 117, 109, 32, 48]⟩ : ByteArray) ++ d, (⟨#[114, 101, 115, 116, 32, 32, 50]⟩ : ByteArray), (⟨#[102, 105, 114, 115, 116, 32, 45, 49]⟩ : ByteArray)]) (N := 200) ?_ j (by simpa using hj), ?_⟩
  · intro x hx
    simp only [List.mem_cons, List.not_mem_nil, or_false] at hx
    have a0 : (⟨#[102, 105, 114, 115, 116, 32]⟩ : ByteArray).size = 6 := rfl
    have a1 : (⟨#[115, 101, 99, 111, 110, 100, 32]⟩ : ByteArray).size = 7 := rfl
    have a2 : (⟨#[115, 117, 109, 32]⟩ : ByteArray).size = 4 := rfl
    have a3 : (⟨#[32]⟩ : ByteArray).size = 1 := rfl
    have a4 : (⟨#[114, 101, 115, 116, 32]⟩ : ByteArray).size = 5 := rfl
    have a5 : (⟨#[115, 117, 109, 32, 48]⟩ : ByteArray).size = 5 := rfl
    rcases hx with rfl | rfl | rfl | rfl | rfl | rfl | rfl | rfl | rfl | rfl | rfl <;> first | decide | (simp only [ByteArray.size_append, a0, a1, a2, a3, a4, a5]; omega)
  · unfold spec_l91Proof.f
    refine Ev.bind e1 (Ev.bind e2 ?_)
    simp only []
    refine Ev.eq (funext fun k => if_pos (by omega)) (Ev.eq (funext fun k => if_pos (by omega)) (Ev.eq (funext fun k => if_pos (by omega)) (Ev.eq (funext fun k => if_pos (by omega)) (Ev.eq (funext fun k => if_pos (by omega)) (Ev.eq (funext fun k => if_pos (by omega)) ?_)))))
    refine Ev.bind (Ev.now _) (Ev.bind e3 (Ev.const fun k => ?_))
    rw [if_pos (by omega), if_pos (by simp; omega)]
theorem drawProofSumIs_ev (l0 : List Int) (h : ∀ x ∈ l0, (Lit.int .u8 x).wf = true) : ∃ (s : ByteArray) (n : Int) (x : ByteArray), s.size ≤ 1000 ∧ x.size ≤ 200 ∧ -1 ≤ n ∧ n ≤ 99 ∧ Ev (fun k => spec_DrawProofSumIs.f k l0) (s, n, x) := by
  obtain ⟨bs, hb, eo⟩ := open_ev l0 h
  obtain ⟨s, q, g1, g2, g3⟩ := set_draw hb 0 (by omega)
  obtain ⟨a, ha, e1⟩ := pick_ev hb q 40 (by omega) (by omega) (by omega)
  obtain ⟨b, hb2, e2⟩ := pick_ev hb (q + 1) 80 (by omega) (by omega) (by omega)
  obtain ⟨d, hd, e4⟩ := pick_ev hb (q + 1 + 1) 5 (by omega) (by omega) (by omega)
  obtain ⟨x, q5, g5, e5⟩ := proof_draw hb (q + 1 + 1 + 1) (by omega)
  have hr : -1 ≤ rd ([(a : Int), (b : Int), 0, (-1), 99] : List Int) (d : Int) ∧ rd ([(a : Int), (b : Int), 0, (-1), 99] : List Int) (d : Int) ≤ 99 := by
    have : d = 0 ∨ d = 1 ∨ d = 2 ∨ d = 3 ∨ d = 4 := by omega
    rcases this with rfl | rfl | rfl | rfl | rfl <;> simp [rd] <;> omega
  refine ⟨s, rd ([(a : Int), (b : Int), 0, (-1), 99] : List Int) (d : Int), x, by omega, g5, hr.1, hr.2, ?_⟩
  unfold spec_DrawProofSumIs.f
  rw [eo]; simp only [Option.bind_some]
  refine Ev.bind g3 (Ev.bind e1 (Ev.bind e2 (Ev.bind e4 ?_)))
  refine Ev.eq (funext fun k => if_pos (by omega)) (Ev.eq (funext fun k => if_pos (by simp; omega)) ?_)
  exact Ev.bind e5 (Ev.now _)

theorem okSum_star (f : Nat → Bool) (N : Int) : ∀ (m : List Nat) (a : Nat), okSum f N m a = true → ∃ d : Nat, ((a + d : Nat) : Int) = N ∧ star f d = true := by
  intro m
  induction m with
  | nil =>
    intro a h
    exact ⟨0, by simpa [okSum] using h, rfl⟩
  | cons k m ih =>
    intro a h
    simp only [okSum] at h
    by_cases c : k = 0
    · rw [if_pos c] at h; cases h
    · rw [if_neg c] at h
      by_cases g : f k = true
      · rw [if_pos g] at h
        obtain ⟨d, h1, h2⟩ := ih (a + k) h
        exact ⟨k + d, by omega, (star_iff f (by omega)).2 ⟨k, by omega, by omega, g, by rw [show k + d - k = d from by omega]; exact h2⟩⟩
      · rw [if_neg g] at h; cases h
theorem proofSumIs_true {s : ByteArray} {n : Int} {x : ByteArray} (hs : s.size ≤ 1073741824) (hx : x.size ≤ 1073741824) (h : Ev (fun k => impl_ProofSumIs.f k s n x) true) : ∃ t r, IsSmall s t r ∧ 0 ≤ n ∧ star (hasB t r) n.toNat = true := by
  obtain ⟨l, b, e1, i1, i2⟩ := numbersOf_is x sumW hx sumW_nospace
  have f1 : ∀ (y : Bool) L a c, y = true → Ev (fun k => impl_ProofSumIs.j0 k n L y a c) false := fun y L a c h => Ev.end fun k => by simp only [impl_ProofSumIs.j0]; rw [if_pos h]
  rcases small_cases s hs with g | ⟨t, r, g⟩
  · obtain ⟨⟨a, c, h1⟩, _⟩ := g
    have h0 : Ev (fun k => impl_ProofSumIs.f k s n x) false := by
      unfold impl_ProofSumIs.f
      refine Ev.bind h1 (Ev.bind (Ev.const fun _ => e1) ?_)
      simp only [Bool.false_eq_true, if_false]
      exact f1 _ _ _ _ rfl
    have := Ev.unique h h0
    cases this
  · cases b with
    | false =>
      have h0 : Ev (fun k => impl_ProofSumIs.f k s n x) false := by
        unfold impl_ProofSumIs.f
        refine Ev.bind g.impl (Ev.bind (Ev.const fun _ => e1) ?_)
        simp only [if_true, Bool.not_false]
        exact f1 _ _ _ _ rfl
      have := Ev.unique h h0
      cases this
    | true =>
      obtain ⟨ns, n1, _⟩ := i1 rfl
      have := Ev.unique h (sumIs_text g n x hx ns n1)
      obtain ⟨d, d1, d2⟩ := okSum_star _ _ ns 0 this.symm
      exact ⟨t, r, g, by omega, by rw [show n.toNat = d from by omega]; exact d2⟩
/-- A number that divides all numbers of the set divides what is a sum. -/
theorem rest_nostar {t r : List Bool} (g : Good t r) (ht : t.length ≤ 8) (hr : r.length ≤ 8) {c m : Nat} (h : gcdB (hasB t r) 40 % c = 0) (hm : m % c ≠ 0) : star (hasB t r) m = false := by
  cases e : star (hasB t r) m with
  | false => rfl
  | true => exact absurd (Nat.mod_eq_zero_of_dvd (Nat.dvd_trans (Nat.dvd_of_mod_eq_zero h) (gcdB_star g.pos 40 (by omega) m e))) hm
end Go.Proofs.YtinjblbfaijhdaaDoor.Q

namespace Go.Proofs.YtinjblbfaijhdaaDoor.Pure
open Go.RowKit Go.Proofs.YtinjblbfaijhdaaDoor.Q Go.Proofs.YtinjblbfaijhdaaDoorW.PrintWords Go.Proofs.YtinjblbfaijhdaaDoorW.PrintLast
open Go.Proofs.YtinjblbfaijhdaaDoor.Pl
set_option linter.unusedSimpArgs false
set_option linter.unusedVariables false
theorem sumIs_loop {s : ByteArray} {t r : List Bool} (g : IsSmall s t r) (hs : s.size ≤ 1000) (m : Nat) (hm : m ≤ 99) (h : star (hasB t r) m = true) (d : Nat) : ∀ i, i + d = 10 → Ev (fun k => laws_FnProofSumIs.l0 k s (m : Int) (i : Int)) true := by
  induction d with
  | zero =>
    intro i hi
    have a3 := starHas_ev g m (by omega)
    rw [h] at a3
    refine Ev.step (f := fun k => (impl_StarHas.f k s m).bind fun t => some t) (fun k => ?_) (Ev.bind a3 (Ev.now _))
    simp only [laws_FnProofSumIs.l0]
    rw [if_neg (by omega), if_neg (by omega)]
  | succ d ih =>
    intro i hi
    have hsz := strOfNums_size [(wrap64 (48 + (i : Int))) % 256]
    simp only [List.length_singleton] at hsz
    generalize hq : strOfNums [(wrap64 (48 + (i : Int))) % 256] = q at hsz
    have hsz2 : ((⟨#[114, 101, 115, 116, 32]⟩ : ByteArray) ++ q).size ≤ 1073741824 := by
      rw [ByteArray.size_append, hsz]; decide
    obtain ⟨b, e1, _, e3, _⟩ := proofRestIs_both s (m : Int) ((⟨#[114, 101, 115, 116, 32]⟩ : ByteArray) ++ q) (by omega) hsz2
    have hb : b = false := by
      cases b with
      | false => rfl
      | true =>
        exfalso
        obtain ⟨t', r', g', _, _, c, hc, hD, hn⟩ := e3 rfl
        have := Ev.unique g.impl g'.impl
        simp only [Prod.mk.injEq] at this
        obtain ⟨rfl, rfl, _⟩ := this
        have := rest_nostar g.good g.tl g.rl hD (by simpa using hn)
        rw [h] at this; cases this
    subst hb
    refine Ev.step (f := fun k => (impl_ProofRestIs.f k s m ((⟨#[114, 101, 115, 116, 32]⟩ : ByteArray) ++ q)).bind fun t => (if t = true then (some false) else (laws_FnProofSumIs.l0 k s m ((i + 1 : Nat) : Int)))) (fun k => ?_) ?_
    · simp only [laws_FnProofSumIs.l0, Option.bind_some, hq]
      rw [if_pos (by omega), if_pos (by omega), wr1 (by omega)]
    · refine Ev.bind e1 ?_
      simp only [Bool.false_eq_true, if_false]
      exact ih (i + 1) (by omega)
theorem FnProofSumIs : laws_FnProofSumIs.Pure := by
  intro l0 h1 h2 h
  by_cases hz : (l0.length : Int) > 1048576
  · exact ⟨0, by unfold laws_FnProofSumIs.f; rw [if_pos hz]⟩
  obtain ⟨s, n, x, hs, hx, n1, n2, hd⟩ := drawProofSumIs_ev l0 h
  refine Ev.rounds ?_
  unfold laws_FnProofSumIs.f
  refine Ev.eq (funext fun k => if_neg hz) (Ev.bind hd ?_)
  obtain ⟨b, e1, e2⟩ := proofSumIs_both s n x (by omega) (by omega)
  refine Ev.bind e1 (Ev.bind e2 ?_)
  simp only [beq_self_eq_true, if_true]
  cases b with
  | false => exact Ev.end fun k => by simp only [laws_FnProofSumIs.j0, Bool.not_false, if_true]
  | true =>
    obtain ⟨t, r, g, n0, hst⟩ := proofSumIs_true (by omega) (by omega) e1
    obtain ⟨m, rfl⟩ : ∃ m : Nat, n = (m : Int) := ⟨n.toNat, by omega⟩
    refine Ev.step (fun k => ?_) (sumIs_loop g hs m (by omega) (by simpa using hst) 8 2 (by omega))
    simp only [laws_FnProofSumIs.j0, Bool.not_true, Bool.false_eq_true, if_false]
    rfl

end Go.Proofs.YtinjblbfaijhdaaDoor.Pure
