/- What the printed functions of the law come to: plain lists and numbers. -/
import Derived.Test.YtmfagnalnooppaaXMark
import Derived.Test.YtmfagnalnooppaaXSpec
import Derived.Test.YtmfagnalnooppaaQLawsEqIntSS
import Derived.Test.YtmfagnalnooppaaQLawsEqStepS
import Derived.Test.YtmfagnalnooppaaQLawsToStepS
import Derived.Test.YtmfagnalnooppaaQLawsSzStepS
namespace Go.Proofs.Ytmfagnalnooppaa.Q
open Go.RowKit Go.Proofs.YtmfagnalnooppaaW.PrintWords Go.Proofs.YtmfagnalnooppaaW.PrintLast
set_option linter.unusedVariables false
set_option linter.unusedSimpArgs false

theorem wrap_id (x : Int) (h0 : -9223372036854775808 ≤ x) (h1 : x ≤ 9223372036854775807) : wrap64 x = x := by
  unfold wrap64
  omega
theorem mkInts_at (k : Int) (l : List Int) (i : Nat) (hi : i < l.length) : (mkInts k l).getD i 0 = k + i := by
  induction l generalizing k i with
  | nil => simp at hi
  | cons x l ih =>
    cases i with
    | zero => simp [mkInts]
    | succ i =>
      have := ih (k + 1) i (by simpa using hi)
      simp only [mkInts, List.getD_cons_succ, this]
      omega
theorem held_l0 (k : Int) (l : List Int) (hk0 : 0 ≤ k) (hk : k + l.length ≤ 1000000000) (d : Nat) : ∀ (f i : Nat), i + d = l.length → d < f → laws_heldIntS.l0 f (mkInts k l) (k + i) (i : Int) = some (k + l.length) := by
  induction d with
  | zero =>
    intro f i hi hf
    obtain ⟨f, rfl⟩ : ∃ m, f = m + 1 := ⟨f - 1, by omega⟩
    simp only [laws_heldIntS.l0]
    rw [if_neg (by rw [mkInts_length]; omega)]
    congr 2
    omega
  | succ d ih =>
    intro f i hi hf
    obtain ⟨f, rfl⟩ : ∃ m, f = m + 1 := ⟨f - 1, by omega⟩
    have hlt : i < l.length := by omega
    simp only [laws_heldIntS.l0]
    rw [if_pos (by rw [mkInts_length]; omega), if_pos (by omega), rd_nat, mkInts_at k l i hlt, if_pos rfl, wrap_id (k + i + 1) (by omega) (by omega), wrap_id ((i : Int) + 1) (by omega) (by omega)]
    have := ih f (i + 1) (by omega) (by omega)
    rw [show ((i + 1 : Nat) : Int) = (i : Int) + 1 from by omega, show k + ((i : Int) + 1) = k + i + 1 from by omega] at this
    exact this
theorem held_f (k : Int) (l : List Int) (hk0 : 0 ≤ k) (hk : k + l.length ≤ 1000000000) (f : Nat) (hf : l.length < f) : laws_heldIntS.f f (mkInts k l) k = some (k + l.length) := by
  have := held_l0 k l hk0 hk l.length f 0 (by omega) hf
  simpa [laws_heldIntS.f] using this
theorem mkIntss_at (k : Int) (l : List (List Int)) (i : Nat) (hi : i < l.length) : (mkIntss k l).getD i [] = mkInts (k + lens (l.take i)) (l.getD i []) := by
  induction l generalizing k i with
  | nil => simp at hi
  | cons x l ih =>
    cases i with
    | zero => simp [mkIntss, lens]
    | succ i =>
      have := ih (k + x.length) i (by simpa using hi)
      simp only [mkIntss, List.getD_cons_succ, this, List.take_succ_cons]
      congr 1
      simp [lens]
      omega
theorem lens_take_all (l : List (List Int)) : lens (l.take l.length) = lens l := by rw [List.take_length]
theorem len_le_lens (l : List (List Int)) (i : Nat) (hi : i < l.length) : (l.getD i []).length ≤ lens l := by
  have h1 := lens_take_succ l i hi
  have h2 := lens_take_le l (i + 1)
  omega
theorem heldss_l0 (k : Int) (l : List (List Int)) (hk0 : 0 ≤ k) (hk : k + lens l ≤ 1000000000) (hll : l.length ≤ 1000000000) (d : Nat) : ∀ (f i : Nat), i + d = l.length → d + lens l + 1 < f → laws_heldIntSS.l0 f (mkIntss k l) (k + lens (l.take i)) (i : Int) = some (k + lens l) := by
  induction d with
  | zero =>
    intro f i hi hf
    obtain ⟨f, rfl⟩ : ∃ m, f = m + 1 := ⟨f - 1, by omega⟩
    simp only [laws_heldIntSS.l0]
    rw [if_neg (by rw [mkIntss_length]; omega)]
    have : i = l.length := by omega
    rw [this, lens_take_all]
  | succ d ih =>
    intro f i hi hf
    obtain ⟨f, rfl⟩ : ∃ m, f = m + 1 := ⟨f - 1, by omega⟩
    have hlt : i < l.length := by omega
    have h1 := len_le_lens l i hlt
    have h2 := lens_take_le l (i + 1)
    have h3 := lens_take_succ l i hlt
    simp only [laws_heldIntSS.l0]
    rw [if_pos (by rw [mkIntss_length]; omega), if_pos (by omega)]
    rw [show rd_L3 (mkIntss k l) (i : Int) = mkInts (k + lens (l.take i)) (l.getD i []) from mkIntss_at k l i hlt]
    rw [held_f (k + lens (l.take i)) (l.getD i []) (by omega) (by omega) f (by omega)]
    simp only [Option.bind_some]
    rw [if_neg (by omega), wrap_id ((i : Int) + 1) (by omega) (by omega)]
    have := ih f (i + 1) (by omega) (by omega)
    rw [h3, show ((i + 1 : Nat) : Int) = (i : Int) + 1 from by omega] at this
    rw [show k + (lens (l.take i) : Int) + ((l.getD i []).length : Int) = k + ((lens (l.take i) + (l.getD i []).length : Nat) : Int) from by omega]
    exact this
theorem heldss_f (k : Int) (l : List (List Int)) (hk0 : 0 ≤ k) (hk : k + lens l ≤ 1000000000) (hll : l.length ≤ 1000000000) : laws_heldIntSS.f (l.length + lens l + 2) (mkIntss k l) k = some (k + lens l) := by
  have := heldss_l0 k l hk0 hk hll l.length (l.length + lens l + 2) 0 (by omega) (by omega)
  simpa [laws_heldIntSS.f, lens] using this

/-! ### a list is like itself -/
theorem eqints_l0 (l : List Int) (hl : l.length ≤ 1000000000) (d : Nat) : ∀ (f i : Nat), i + d = l.length → d < f → laws_eqIntS.l0 f l l (i : Int) = some true := by
  induction d with
  | zero =>
    intro f i hi hf
    obtain ⟨f, rfl⟩ : ∃ m, f = m + 1 := ⟨f - 1, by omega⟩
    simp only [laws_eqIntS.l0]
    rw [if_neg (by omega)]
  | succ d ih =>
    intro f i hi hf
    obtain ⟨f, rfl⟩ : ∃ m, f = m + 1 := ⟨f - 1, by omega⟩
    simp only [laws_eqIntS.l0]
    rw [if_pos (by omega), if_pos (by omega), if_pos (by omega)]
    simp only [if_true]
    rw [wrap_id ((i : Int) + 1) (by omega) (by omega)]
    have := ih f (i + 1) (by omega) (by omega)
    rwa [show ((i + 1 : Nat) : Int) = (i : Int) + 1 from by omega] at this
theorem eqints_f (l : List Int) (hl : l.length ≤ 1000000000) (f : Nat) (hf : l.length < f) : laws_eqIntS.f f l l = some true := by
  have := eqints_l0 l hl l.length f 0 (by omega) hf
  simpa [laws_eqIntS.f] using this
theorem eqss_l0 (l : List (List Int)) (hl : l.length ≤ 1000000000) (hk : lens l ≤ 1000000000) (d : Nat) : ∀ (f i : Nat), i + d = l.length → d + lens l + 1 < f → laws_eqIntSS.l0 f l l (i : Int) = some true := by
  induction d with
  | zero =>
    intro f i hi hf
    obtain ⟨f, rfl⟩ : ∃ m, f = m + 1 := ⟨f - 1, by omega⟩
    simp only [laws_eqIntSS.l0]
    rw [if_neg (by omega)]
  | succ d ih =>
    intro f i hi hf
    obtain ⟨f, rfl⟩ : ∃ m, f = m + 1 := ⟨f - 1, by omega⟩
    have hlt : i < l.length := by omega
    have h1 : (rd_L3 l (i : Int)).length ≤ lens l := len_le_lens l i hlt
    simp only [laws_eqIntSS.l0]
    rw [if_pos (by omega), if_pos (by omega), if_pos (by omega), eqints_f _ (by omega) f (by omega)]
    simp only [Option.bind_some, if_true]
    rw [wrap_id ((i : Int) + 1) (by omega) (by omega)]
    have := ih f (i + 1) (by omega) (by omega)
    rwa [show ((i + 1 : Nat) : Int) = (i : Int) + 1 from by omega] at this
theorem eqss_f (l : List (List Int)) (hl : l.length ≤ 1000000000) (hk : lens l ≤ 1000000000) : laws_eqIntSS.f (l.length + lens l + 2) l l = some true := by
  have := eqss_l0 l hl hk l.length (l.length + lens l + 2) 0 (by omega) (by omega)
  simpa [laws_eqIntSS.f] using this
theorem eqsteps_l0 (l : List S37) (hl : l.length ≤ 1000000000) (d : Nat) : ∀ (f i : Nat), i + d = l.length → d < f → laws_eqStepS.l0 f l l (i : Int) = some true := by
  induction d with
  | zero =>
    intro f i hi hf
    obtain ⟨f, rfl⟩ : ∃ m, f = m + 1 := ⟨f - 1, by omega⟩
    simp only [laws_eqStepS.l0]
    rw [if_neg (by omega)]
  | succ d ih =>
    intro f i hi hf
    obtain ⟨f, rfl⟩ : ∃ m, f = m + 1 := ⟨f - 1, by omega⟩
    simp only [laws_eqStepS.l0, laws_eqStep.f]
    rw [if_pos (by omega), if_pos (by omega), if_pos (by omega)]
    simp only [if_true, Option.bind_some]
    rw [wrap_id ((i : Int) + 1) (by omega) (by omega)]
    have := ih f (i + 1) (by omega) (by omega)
    rwa [show ((i + 1 : Nat) : Int) = (i : Int) + 1 from by omega] at this
theorem eqsteps_f (l : List S37) (hl : l.length ≤ 1000000000) : laws_eqStepS.f (l.length + 1) l l = some true := by
  have := eqsteps_l0 l hl l.length (l.length + 1) 0 (by omega) (by omega)
  simpa [laws_eqStepS.f] using this
/-- A law's step as the program's. -/
def conv (x : S39) : S37 := ⟨x.f0, x.f1, x.f2⟩
def convTo (l : List S39) (i : Nat) : List S37 := (l.take i).map conv ++ List.replicate (l.length - i) z37
theorem convTo_length (l : List S39) (i : Nat) (hi : i ≤ l.length) : (convTo l i).length = l.length := by simp [convTo]; omega
theorem convTo_succ (l : List S39) (i : Nat) (hi : i < l.length) : (convTo l i).set i (conv (l.getD i z39)) = convTo l (i + 1) := by
  unfold convTo
  have hl : ((l.take i).map conv).length = i := by simp; omega
  rw [List.set_append, if_neg (by omega), hl, Nat.sub_self, List.take_succ_eq_append_getElem hi, List.map_append, List.append_assoc]
  congr 1
  rw [show l.length - i = (l.length - (i + 1)) + 1 from by omega, List.replicate_succ, List.set_cons_zero, List.getD_eq_getElem?_getD, List.getElem?_eq_getElem hi]
  rfl
theorem to_l0 (l : List S39) (hl : l.length ≤ 1000000000) (d : Nat) : ∀ (f i : Nat), i + d = l.length → d < f → laws_toStepS.l0 f l (convTo l i) (i : Int) = some (l.map conv) := by
  induction d with
  | zero =>
    intro f i hi hf
    obtain ⟨f, rfl⟩ : ∃ m, f = m + 1 := ⟨f - 1, by omega⟩
    simp only [laws_toStepS.l0]
    rw [if_neg (by omega)]
    have : i = l.length := by omega
    subst this
    simp [convTo]
  | succ d ih =>
    intro f i hi hf
    obtain ⟨f, rfl⟩ : ∃ m, f = m + 1 := ⟨f - 1, by omega⟩
    have hlt : i < l.length := by omega
    simp only [laws_toStepS.l0, laws_toStep.f]
    rw [if_pos (by omega), if_pos (by omega)]
    simp only [Option.bind_some]
    rw [if_pos (by rw [convTo_length l i (by omega)]; omega), wrap_id ((i : Int) + 1) (by omega) (by omega)]
    have := ih f (i + 1) (by omega) (by omega)
    rw [← convTo_succ l i hlt, show ((i + 1 : Nat) : Int) = (i : Int) + 1 from by omega] at this
    exact this
theorem to_f (l : List S39) (hl : l.length ≤ 1000000000) : laws_toStepS.f (l.length + 1) l = some (l.map conv) := by
  have := to_l0 l hl l.length (l.length + 1) 0 (by omega) (by omega)
  unfold laws_toStepS.f
  rw [if_pos (by omega), if_pos (by simp; omega)]
  simpa [convTo] using this
end Go.Proofs.Ytmfagnalnooppaa.Q
