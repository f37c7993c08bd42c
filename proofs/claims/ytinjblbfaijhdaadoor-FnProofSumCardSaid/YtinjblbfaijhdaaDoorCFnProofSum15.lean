/- The law FnProofSum holds for all that it draws. -/
import Derived.Lib.ItoaNum
import Derived.Test.YtinjblbfaijhdaaDoorCFnProofSum11
import Derived.Test.YtinjblbfaijhdaaDoorCFnProofSum13
import Derived.Test.YtinjblbfaijhdaaDoorCFnProofSum14
namespace Go.Proofs.YtinjblbfaijhdaaDoor.Q
open Go.RowKit Go.Proofs.YtinjblbfaijhdaaDoorW.PrintWords Go.Proofs.YtinjblbfaijhdaaDoorW.PrintLast Go.Proofs.YtinjblbfaijhdaaDoorW.PrintMore
open Go.Proofs.YtinjblbfaijhdaaDoor.Pl
set_option linter.unusedVariables false
set_option linter.unusedSimpArgs false
def dec (n : Nat) : ByteArray := ⟨(Lib.decDigits n).toArray⟩
theorem ba_ext' {a b : ByteArray} (h : a.data.toList = b.data.toList) : a = b := by
  cases a; cases b; simp only at h; congr; exact Array.toList_inj.1 h
theorem dec_len (n : Nat) : (Lib.decDigits n).length ≤ n + 1 := by
  induction n using Nat.strongRecOn with
  | ind n ih =>
    rw [Lib.decDigits]
    split
    · simp
    · have := ih (n / 10) (by omega)
      simp only [List.length_append, List.length_cons, List.length_nil]
      omega
theorem dec_size (n : Nat) : (dec n).size ≤ n + 1 := dec_len n
theorem dec_ev (n : Nat) (hn : n ≤ 1000000000) : Ev (fun k => spec_l6Dec.f k n) (dec n) := by
  induction n using Nat.strongRecOn with
  | ind n ih =>
    by_cases c : n < 10
    · refine Ev.end fun k => ?_
      simp only [spec_l6Dec.f]
      rw [if_neg (by omega), if_neg (by omega), if_pos (by omega), wr (x := 48 + (n : Int)) (by omega) (by omega)]
      congr 1
      refine ba_ext' ?_
      show ([(48 + (n : Int)) % 256].map fun x : Int => UInt8.ofNat x.toNat) = Lib.decDigits n
      rw [Lib.decDigits, dif_pos c]
      have : ((48 + (n : Int)) % 256).toNat = 48 + n := by omega
      simp only [List.map_cons, List.map_nil, this]
    · have k1 := ih (n / 10) (by omega) (by omega)
      refine Ev.step (f := fun k => (spec_l6Dec.f k ((n / 10 : Nat) : Int)).bind fun t => if t.size + (strOfNums [48 + ((n % 10 : Nat) : Int)]).size ≤ 9223372036854775807 then some (t ++ strOfNums [48 + ((n % 10 : Nat) : Int)]) else none) (fun k => ?_) ?_
      · simp only [spec_l6Dec.f]
        rw [if_neg (by omega), if_neg (by omega), if_neg (by omega), show Int.tdiv (n : Int) 10 = ((n / 10 : Nat) : Int) from tdiv_nat n 10, show Int.tmod (n : Int) 10 = ((n % 10 : Nat) : Int) from tmod_nat n 10, wr (x := ((n / 10 : Nat) : Int)) (by omega) (by omega), wr (x := 48 + ((n % 10 : Nat) : Int)) (by omega) (by omega)]
        have : (48 + ((n % 10 : Nat) : Int)) % 256 = 48 + ((n % 10 : Nat) : Int) := by omega
        rw [this]
        rfl
      · refine Ev.bind k1 (Ev.const fun k => ?_)
        have h1 := dec_size (n / 10)
        have h2 : (strOfNums [48 + ((n % 10 : Nat) : Int)]).size = 1 := rfl
        rw [if_pos (by omega)]
        congr 1
        refine ba_ext' ?_
        have e : (48 + ((n % 10 : Nat) : Int)).toNat = 48 + n % 10 := by omega
        rw [ByteArray.data_append, Array.toList_append]
        show Lib.decDigits (n / 10) ++ ([48 + ((n % 10 : Nat) : Int)].map fun x : Int => UInt8.ofNat x.toNat) = Lib.decDigits n
        rw [Lib.decDigits.eq_def n, dif_neg c]
        simp only [List.map_cons, List.map_nil, e]
theorem itoa_eq (n : Nat) (hn : n ≤ 1000000000) : strconv_Itoa_68.f n = some (dec n) := by
  unfold strconv_Itoa_68.f
  rw [if_pos (by omega), Lib.itoa, if_neg (by omega), Int.toNat_natCast]
  rfl
/-- A word, and numbers, each one behind a space. -/
def wordsB (x : ByteArray) : List Nat → ByteArray
  | [] => x
  | n :: l => wordsB (x ++ (⟨#[32]⟩ : ByteArray) ++ dec n) l
theorem rd_at (l : List Nat) (i : Nat) (h : i < l.length) : rd (l.map fun y : Nat => (y : Int)) (i : Int) = ((l[i] : Nat) : Int) := by
  simp [rd, h]
theorem words_ev (l : List Nat) (hl : l.length ≤ 100000) (hb : ∀ n ∈ l, n ≤ 100000) (d : Nat) : ∀ (i : Nat) (x : ByteArray), i + d = l.length → x.size ≤ 1000 + i * 200000 →
    Ev (fun k => impl_proofText.l0 k x (l.map fun y : Nat => (y : Int)) (l.length : Nat) (i : Nat)) (wordsB x (l.drop i)) ∧ Ev (fun k => spec_l11Words.l0 k x (l.map fun y : Nat => (y : Int)) (i : Nat)) (wordsB x (l.drop i)) := by
  induction d with
  | zero =>
    intro i x hi hx
    rw [List.drop_eq_nil_of_le (by omega)]
    constructor
    · refine Ev.end fun k => ?_
      simp only [impl_proofText.l0]
      rw [if_neg (by omega)]; rfl
    · refine Ev.end fun k => ?_
      simp only [spec_l11Words.l0, List.length_map]
      rw [if_neg (by omega)]; rfl
  | succ d ih =>
    intro i x hi hx
    have hil : i < l.length := by omega
    have hm := hb l[i] (List.getElem_mem hil)
    have hs := dec_size l[i]
    have e : l.drop i = l[i] :: l.drop (i + 1) := (List.getElem_cons_drop hil).symm
    have hsz : (x ++ (⟨#[32]⟩ : ByteArray) ++ dec l[i]).size = x.size + 1 + (dec l[i]).size := by
      rw [ByteArray.size_append, ByteArray.size_append]; rfl
    obtain ⟨k1, k2⟩ := ih (i + 1) (x ++ (⟨#[32]⟩ : ByteArray) ++ dec l[i]) (by omega) (by omega)
    rw [e]
    have ea : x ++ ((⟨#[32]⟩ : ByteArray) ++ dec l[i]) = x ++ (⟨#[32]⟩ : ByteArray) ++ dec l[i] := ba_ext' (by simp [ByteArray.data_append])
    constructor
    · refine Ev.step (fun k => ?_) k1
      simp only [impl_proofText.l0, List.length_map]
      rw [if_pos (by omega), if_pos (by omega), if_pos (by omega), rd_at l i hil, itoa_eq _ (by omega)]
      simp only [Option.bind_some]
      rw [if_pos (by omega), if_pos (by omega), wr1 (by omega), ea]
    · refine Ev.step (f := fun k => (spec_l6Dec.f k ((l[i] : Nat) : Int)).bind fun t => if x.size + 1 + t.size ≤ 9223372036854775807 then spec_l11Words.l0 k (x ++ (⟨#[32]⟩ : ByteArray) ++ t) (l.map fun y : Nat => (y : Int)) ((i + 1 : Nat) : Int) else none) (fun k => ?_) ?_
      · simp only [spec_l11Words.l0, List.length_map]
        rw [if_pos (by omega), if_pos (by omega), if_pos (by omega), rd_at l i hil, wr1 (by omega)]
      · have hc : x.size + 1 + (dec l[i]).size ≤ 9223372036854775807 := by omega
        refine Ev.bind (dec_ev _ (by omega)) ?_
        simp only [if_pos hc]
        exact k2
/-- What both writers make of a word and numbers. -/
theorem words_both (x : ByteArray) (hx : x.size ≤ 1000) (l : List Nat) (hl : l.length ≤ 100000) (hb : ∀ n ∈ l, n ≤ 100000) :
    Ev (fun k => impl_proofText.f k x (l.map fun y : Nat => (y : Int))) (wordsB x l) ∧ Ev (fun k => spec_l11Words.f k x (l.map fun y : Nat => (y : Int))) (wordsB x l) := by
  obtain ⟨k1, k2⟩ := words_ev l hl hb l.length 0 x (Nat.zero_add _) (by omega)
  constructor
  · unfold impl_proofText.f
    rw [List.length_map]
    exact k1
  · exact k2


def sum_ : ByteArray := ⟨#[115, 117, 109]⟩
theorem way_nat (f : Nat → Bool) : ∀ (l : List Int) (n : Nat), IsWay f n l → ∃ m : List Nat, l = m.map (fun y : Nat => (y : Int)) ∧ ∀ x ∈ m, x ≤ n := by
  intro l
  induction l with
  | nil => exact fun n _ => ⟨[], rfl, fun x hx => by cases hx⟩
  | cons y l ih =>
    intro n h
    obtain ⟨z, rfl, h0, hz, h⟩ := h
    have hz' := fst_le hz
    obtain ⟨m, rfl, hm⟩ := ih _ h
    refine ⟨z :: m, rfl, fun x hx => ?_⟩
    rcases List.mem_cons.1 hx with e | e
    · omega
    · have := hm x e; omega
theorem proofSum_no {s : ByteArray} {n : Int} (hs : NoSmall s ∨ ∃ t r, IsSmall s t r) (h : NoSmall s ∨ ¬ (0 ≤ n ∧ n ≤ 40)) : Ev (fun k => impl_ProofSum.f k s n) ((⟨#[]⟩ : ByteArray), false) ∧ Ev (fun k => spec_ProofSum.f k s n) ((⟨#[]⟩ : ByteArray), false) := by
  obtain ⟨e1, e2⟩ := waysFirst_no hs h
  constructor
  · unfold impl_ProofSum.f
    refine Ev.bind e1 ?_
    simp only [Bool.false_eq_true, if_false]
    exact Ev.now _
  · unfold spec_ProofSum.f
    refine Ev.bind e2 ?_
    simp only [Bool.false_eq_true, if_false]
    exact Ev.now _

end Go.Proofs.YtinjblbfaijhdaaDoor.Q
