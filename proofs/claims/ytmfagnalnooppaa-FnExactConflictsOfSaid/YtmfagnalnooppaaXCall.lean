/- The specification's ConflictsOf, as a contract; the law's size and mark, as plain numbers. -/
import Derived.Test.YtmfagnalnooppaaXPure
import Derived.Test.YtmfagnalnooppaaQSpecGoodSteps
import Derived.Test.YtmfagnalnooppaaQLawsMarkStepS
import Derived.Test.YtmfagnalnooppaaXOf
namespace Go.Proofs.Ytmfagnalnooppaa.Q
open Go.RowKit Go.Proofs.YtmfagnalnooppaaW.PrintWords Go.Proofs.YtmfagnalnooppaaW.PrintLast
set_option linter.unusedVariables false
set_option linter.unusedSimpArgs false

theorem good_l0 (l : List S37) (hl : l.length ≤ 1000000000) (d : Nat) : ∀ (f i : Nat), i + d = l.length → d < f → spec_GoodSteps.l0 f l l (l.length : Int) (i : Int) = some (decide (l.length ≤ 40) && (l.drop i).all isStepB) := by
  induction d with
  | zero =>
    intro f i hi hf
    obtain ⟨f, rfl⟩ : ∃ m, f = m + 1 := ⟨f - 1, by omega⟩
    simp only [spec_GoodSteps.l0]
    rw [if_neg (by omega), List.drop_eq_nil_of_le (by omega)]
    simp only [List.all_nil, Bool.and_true]
    congr 1
    exact decide_eq_decide.2 (by omega)
  | succ d ih =>
    intro f i hi hf
    obtain ⟨f, rfl⟩ : ∃ m, f = m + 1 := ⟨f - 1, by omega⟩
    have hlt : i < l.length := by omega
    have hx : rd_T37 l (i : Int) = l[i] := by
      show l.getD i z37 = _
      rw [List.getD_eq_getElem?_getD, List.getElem?_eq_getElem hlt]; rfl
    have hd : l.drop i = l[i] :: l.drop (i + 1) := List.drop_eq_getElem_cons hlt
    have := ih f (i + 1) (by omega) (by omega)
    simp only [spec_GoodSteps.l0, spec_l1In.f]
    rw [if_pos (by omega), if_pos (by omega), if_pos (by omega), hx, hd, wrap_id ((i : Int) + 1) (by omega) (by omega), show (i : Int) + 1 = ((i + 1 : Nat) : Int) from by omega, this, List.all_cons]
    generalize l[i] = x
    unfold isStepB
    split
    · rw [decide_eq_false (p := 0 ≤ x.f0 ∧ _) (by omega)]; simp
    split
    · rw [decide_eq_false (p := 0 ≤ x.f0 ∧ _) (by omega)]; simp
    split
    · rw [decide_eq_false (p := 0 ≤ x.f0 ∧ _) (by omega)]; simp
    split
    · rw [decide_eq_false (p := 0 ≤ x.f0 ∧ _) (by omega)]; simp
    split
    · simp only [Option.bind_some]
      split
      · rename_i h1 h2 h3 h4 h5 h6
        rw [decide_eq_true (p := 0 ≤ x.f0 ∧ _) (by have := of_decide_eq_true h6; omega)]; simp
      · rename_i h1 h2 h3 h4 h5 h6
        rw [decide_eq_false (p := 0 ≤ x.f0 ∧ _) (by intro hh; exact h6 (decide_eq_true (by omega)))]; simp
    · simp only [Option.bind_some]
      rw [decide_eq_false (p := 0 ≤ x.f0 ∧ _) (by omega)]; simp
theorem good_f (l : List S37) (hl : l.length ≤ 1000000000) : spec_GoodSteps.f (l.length + 1) l = some (goodStepsB l) := by
  have := good_l0 l hl l.length (l.length + 1) 0 (by omega) (by omega)
  simpa [spec_GoodSteps.f, goodStepsB] using this
theorem markstep_l0 (d : Nat) : ∀ (f i : Nat) (l : List S37) (k : Int), l.length ≤ 100000000 → 0 ≤ k → k + 3 * d ≤ 1000000000 → i + d = l.length → d < f → ∃ r2, laws_markStepS.l0 f l k (i : Int) = some (k + 3 * d, r2) := by
  induction d with
  | zero =>
    intro f i l k hl hk0 hk hi hf
    obtain ⟨f, rfl⟩ : ∃ m, f = m + 1 := ⟨f - 1, by omega⟩
    simp only [laws_markStepS.l0]
    rw [if_neg (by omega)]
    exact ⟨l, by simp⟩
  | succ d ih =>
    intro f i l k hl hk0 hk hi hf
    obtain ⟨f, rfl⟩ : ∃ m, f = m + 1 := ⟨f - 1, by omega⟩
    simp only [laws_markStepS.l0, Option.bind_some]
    rw [if_pos (by omega), if_pos (by omega)]
    rw [wrap_id (k + 1) (by omega) (by omega), wrap_id (k + 1 + 1) (by omega) (by omega), wrap_id (k + 1 + 1 + 1) (by omega) (by omega), wrap_id ((i : Int) + 1) (by omega) (by omega)]
    generalize hL : (List.set _ _ _ : List S37) = L
    have hlen : L.length = l.length := by rw [← hL]; simp
    obtain ⟨r2, h⟩ := ih f (i + 1) L (k + 1 + 1 + 1) (by omega) (by omega) (by omega) (by omega) (by omega)
    refine ⟨r2, ?_⟩
    rw [show ((i + 1 : Nat) : Int) = (i : Int) + 1 from by omega] at h
    rw [h]
    congr 2
    omega
theorem markstep_f (l : List S37) (hl : l.length ≤ 1048576) : ∃ r2, laws_markStepS.f (l.length + 1) l 1 = some (1 + 3 * (l.length : Int), r2) :=
  markstep_l0 l.length (l.length + 1) 0 l 1 (by omega) (by omega) (by omega) (by omega) (by omega)
theorem sz_f (l : List S39) (hl : l.length ≤ 9223372036854775807) : laws_szStepS.f l 1048576 = some (if l.length ≤ 1048576 then 1048576 - (l.length : Int) else -1) := by
  unfold laws_szStepS.f
  rw [wrap_id _ (by omega) (by omega)]
  by_cases h : l.length ≤ 1048576
  · rw [if_neg (by omega), if_pos h]
  · rw [if_pos (by omega), if_neg h]

theorem specConflictsOf_calls (A : Option Addr) (c : Nat) (l : List S37) (w : World) (hr : Kd.C k37 w A l.length l) (hcap : l.length ≤ c) (hl : l.length ≤ 1000000000) :
    Calls Try.prog 5 #[.slice A l.length c] w fun e w' => ∃ v, e = .returned (.tuple #[v, .bool (conflictsOfB l).2]) ∧ Kd.R (Kd.slice 3 (Kd.int .i64)) 43 w' w.heap.size (fun _ => True) v (conflictsOfB l).1 ∧ Below w.heap.size w w' := by
  have HG := Aside0.mk (spec_GoodSteps.calls _ A c l _ w hr hcap (good_f l hl))
  by_cases hgood : goodStepsB l = true
  · have hall : ∀ x ∈ l, okStep x := fun x hx => by
      have h2 : l.all isStepB = true := by simp [goodStepsB] at hgood; simpa using hgood.2
      exact isStepB_ok x (List.all_eq_true.1 h2 x hx)
    have HF : ∀ W, Below w.heap.size w W → Calls Try.prog 14 #[.slice A l.length c] W fun e w' => ∃ v, e = .returned v ∧ Kd.R (Kd.slice 3 (Kd.int .i64)) 43 w' W.heap.size (fun _ => True) v (setsOf (confs (fun _ => 0) l) 6) ∧ Below W.heap.size W w' := fun W hb => l13Conflicts_calls A c l W (Kd.C_below hr hb) hcap hall
    have HF := Aside0.mk HF
    have HS := Aside0.mk (show conflictsOfB l = (setsOf (confs (fun _ => 0) l) 6, true) from by simp [conflictsOfB, hgood])
    rw [hgood] at HG
    clear hr hgood hall
    rw [HS.out]
    go_enter Try.func5, Try.ntmps5
    go_wp2_with (first | (go_at_call 13; refine HG.out.mono ?_; rintro e w1 ⟨rfl, hb1⟩; have HB1 := Aside0.mk hb1; clear hb1) | (go_at_call 14; refine (HF.out _ HB1.out).mono ?_; rintro e w2 ⟨v, rfl, hv, hb2⟩; obtain ⟨A2, c2, rfl⟩ := Kd.R_slice hv; have HV := Aside0.mk hv; have HB2 := Aside0.mk (below_then HB1.out HB1.out.size hb2); clear hb2 hv))
    go_ret2
    exact ⟨_, rfl, Kd.R_mono (R_young_ HV.out HB1.out.size) (fun _ _ => trivial), HB2.out⟩
  · have hgf : goodStepsB l = false := by simpa using hgood
    have HS := Aside0.mk (show conflictsOfB l = ([], false) from by simp [conflictsOfB, hgf])
    rw [hgf] at HG
    clear hr hgood hgf
    rw [HS.out]
    go_enter Try.func5, Try.ntmps5
    go_wp2_with (go_at_call 13; refine HG.out.mono ?_; rintro e w1 ⟨rfl, hb1⟩)
    go_ret2
    exact ⟨_, rfl, Kd.R_nil _ _ _ _ _, hb1⟩
theorem lens_sets (M : Nat → Nat) (k : Nat) : lens (setsOf M k) ≤ 6 * k := by
  induction k with
  | zero => simp [setsOf, lens]
  | succ k ih =>
    rw [setsOf_succ]
    have := bitsTo_length (M k) 6
    simp only [lens, List.map_append, List.sum_append, List.map_cons, List.map_nil, List.sum_cons, List.sum_nil] at ih ⊢
    omega
theorem conf_sizes (l : List S37) : (conflictsOfB l).1.length ≤ 6 ∧ lens (conflictsOfB l).1 ≤ 36 := by
  unfold conflictsOfB
  split
  · exact ⟨by simp [setsOf_length], lens_sets _ 6⟩
  · exact ⟨by simp, by simp [lens]⟩
end Go.Proofs.Ytmfagnalnooppaa.Q
