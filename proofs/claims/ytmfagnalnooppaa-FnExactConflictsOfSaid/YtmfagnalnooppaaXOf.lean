/- impl.GoodSteps and impl.ConflictsOf: what they answer. -/
import Derived.Test.YtmfagnalnooppaaXAllStep
import Derived.Test.YtmfagnalnooppaaXList
import Derived.Test.YtmfagnalnooppaaXConf
import Derived.Test.YtmfagnalnooppaaQImplIsStep
namespace Go.Proofs.Ytmfagnalnooppaa.Q
open Go.RowKit Go.Proofs.YtmfagnalnooppaaW.PrintWords Go.Proofs.YtmfagnalnooppaaW.PrintLast
set_option linter.unusedVariables false
set_option linter.unusedSimpArgs false

def isStepB (x : S37) : Bool := decide (0 ≤ x.f0 ∧ x.f0 ≤ 5 ∧ 1 ≤ x.f1 ∧ x.f1 ≤ 2 ∧ 0 ≤ x.f2 ∧ x.f2 ≤ 3)
theorem isStepB_f (x : S37) : impl_isStep.f x.f0 x.f1 x.f2 = some (isStepB x) := by
  unfold impl_isStep.f impl_isTxn.f impl_within.f isStepB
  by_cases h0 : 0 ≤ x.f0 <;> by_cases h1 : x.f0 ≤ 5 <;> by_cases h2 : 1 ≤ x.f1 <;> by_cases h3 : x.f1 ≤ 2 <;> by_cases h4 : 0 ≤ x.f2 <;> by_cases h5 : x.f2 ≤ 3 <;> simp [h0, h1, h2, h3, h4, h5]
theorem isStepB_ok (x : S37) (h : isStepB x = true) : okStep x := by
  simp [isStepB] at h
  unfold okStep
  omega
theorem pred_isStep (l : List S37) (w : World) : Pred_Step 27 #[] isStepB l w := fun W x hx hb => by
  rw [Array.append_empty]
  exact impl_isStep.calls _ _ _ _ W (isStepB_f x)
theorem info43 : (Try.prog.info? 43).map (fun i => (i.zero, i.size, i.bytes)) = some (some (.slice none 0 0), 1, 24) := by kernel_rfl
def goodStepsB (l : List S37) : Bool := decide (l.length ≤ 40) && l.all isStepB

set_option maxHeartbeats 2000000 in
theorem goodSteps_calls (A : Option Addr) (c : Nat) (l : List S37) (w : World) (hr : Kd.C k37 w A l.length l) (hcap : l.length ≤ c) :
    Calls Try.prog 16 #[.slice A l.length c] w fun e w' => e = .returned (.bool (goodStepsB l)) ∧ Below w.heap.size w w' := by
  have hbig : l.length ≤ 9223372036854775807 := hr.2.1
  have e27 : ∀ args w, (callFunc 27 args).run Try.prog w = .ok (.enter 27 args) w := enters_of Try.func27 (by kernel_rfl) rfl
  have HC := Aside0.mk (areAll_Step 27 #[] isStepB A c l w hr hcap e27 (pred_isStep l w))
  clear hr
  by_cases h : l.length ≤ 40
  · have hd : decide ((l.length : Int) ≤ 40) = true := decide_eq_true (by omega)
    go_enter Try.func16, Try.ntmps16
    go_wp2_with (go_at_call 26; refine HC.out.mono ?_; rintro e w' ⟨rfl, hb'⟩)
    go_ret
    exact ⟨by simp [goodStepsB, h], hb'⟩
  · have hd : decide ((l.length : Int) ≤ 40) = false := decide_eq_false (by omega)
    go_enter Try.func16, Try.ntmps16
    go_wp2_with fail
    go_ret
    exact ⟨by simp [goodStepsB, h], Below.refl _ _⟩

theorem run_index_arr (M : Nat → Nat) (k : Nat) (hk : k < 6) (W : World) : (Instr.index 41 (.agg (arrOf M).toArray) (.int .i64 (k : Int))).run Try.prog W = .ok (.int .i64 (M k : Int)) W := by
  have h : k = 0 ∨ k = 1 ∨ k = 2 ∨ k = 3 ∨ k = 4 ∨ k = 5 := by omega
  rcases h with rfl | rfl | rfl | rfl | rfl | rfl
  all_goals
    show Sem.run Try.prog (Instr.index 41 (.agg #[.int .i64 (M 0 : Int), .int .i64 (M 1 : Int), .int .i64 (M 2 : Int), .int .i64 (M 3 : Int), .int .i64 (M 4 : Int), .int .i64 (M 5 : Int)]) _) W = _
    kernel_rfl
def setsOf (M : Nat → Nat) (k : Nat) : List (List Int) := (List.range k).map fun t => bitsTo (M t) 6
theorem setsOf_length (M : Nat → Nat) (k : Nat) : (setsOf M k).length = k := by simp [setsOf]
theorem setsOf_succ (M : Nat → Nat) (k : Nat) : setsOf M (k + 1) = setsOf M k ++ [bitsTo (M k) 6] := by simp [setsOf, List.range_succ]
def conflictsOfB (l : List S37) : List (List Int) × Bool := if goodStepsB l then (setsOf (confs (fun _ => 0) l) 6, true) else ([], false)

theorem addAll_lt (x : S37) (hx : okStep x) : ∀ (l : List S37), (∀ y ∈ l, okStep y) → ∀ M : Nat → Nat, (∀ t, M t < 64) → ∀ t, addAll x M l t < 64
  | [], _, M, hM, t => hM t
  | y :: l, hl, M, hM, t => by
    have hy := hl y (by simp)
    refine addAll_lt x hx l (fun z hz => hl z (by simp [hz])) _ ?_ t
    intro s
    split
    · show (if s = x.f0.toNat then M s ||| 2 ^ y.f0.toNat else M s) < 64
      split
      · exact or_lt_ _ _ (hM s) (by have := hy.1; have := hy.2.1; omega)
      · exact hM s
    · exact hM s
theorem confs_lt : ∀ (l : List S37), (∀ y ∈ l, okStep y) → ∀ M : Nat → Nat, (∀ t, M t < 64) → ∀ t, confs M l t < 64
  | [], _, M, hM, t => hM t
  | x :: l, hl, M, hM, t => confs_lt l (fun z hz => hl z (by simp [hz])) _ (addAll_lt x (hl x (by simp)) l (fun z hz => hl z (by simp [hz])) M hM) t

set_option maxHeartbeats 2000000 in
theorem conflictsOf_calls (A : Option Addr) (c : Nat) (l : List S37) (w : World) (hr : Kd.C k37 w A l.length l) (hcap : l.length ≤ c) :
    Calls Try.prog 7 #[.slice A l.length c] w fun e w' => ∃ v, e = .returned (.tuple #[v, .bool (conflictsOfB l).2]) ∧ Kd.S (Kd.slice 3 (Kd.int .i64)) 43 w' w.heap.size (fun _ => True) v (conflictsOfB l).1 ∧ Below w.heap.size w w' := by
  have HG := Aside0.mk (goodSteps_calls A c l w hr hcap)
  by_cases hgood : goodStepsB l = true
  · have hall : ∀ x ∈ l, okStep x := fun x hx => by
      have h2 : l.all isStepB = true := by simp [goodStepsB] at hgood; simpa using hgood.2
      exact isStepB_ok x (List.all_eq_true.1 h2 x hx)
    have hlt := confs_lt l hall (fun _ => 0) (fun _ => by omega)
    have HF : ∀ W, Below w.heap.size w W → Calls Try.prog 17 #[.slice A l.length c] W fun e w' => e = .returned (.agg (arrOf (confs (fun _ => 0) l)).toArray) ∧ Below W.heap.size W w' := fun W hb => conflicts_calls A c l W (Kd.C_below hr hb) hcap hall
    have HF := Aside0.mk HF
    have HS := Aside0.mk (show conflictsOfB l = (setsOf (confs (fun _ => 0) l) 6, true) from by simp [conflictsOfB, hgood])
    generalize confs (fun _ => 0) l = M at hlt HF HS
    rw [hgood] at HG
    clear hr hgood hall
    rw [HS.out]
    go_enter Try.func7, Try.ntmps7
    go_wp2_with (first | (go_at_call 16; refine HG.out.mono ?_; rintro e w1 ⟨rfl, hb1⟩; have HB1 := Aside0.mk hb1; clear hb1) | (go_at_call 17; refine (HF.out _ HB1.out).mono ?_; rintro e w2 ⟨rfl, hb2⟩; have HB2 := Aside0.mk (below_then HB1.out HB1.out.size hb2); clear hb2))
    go_loopg [4, 12] 6 (fun gg v4 v12 wr => ∃ kk : Nat, kk ≤ 6 ∧ 6 - kk ≤ gg ∧ v12 = .int .i64 kk ∧ Aside0 (Kd.S (Kd.slice 3 (Kd.int .i64)) 43 wr w.heap.size (fun _ => True) v4 (setsOf M kk)) ∧ Aside0 (Below w.heap.size w wr))
    case atStart => exact ⟨0, by omega, by omega, rfl, ⟨Kd.S_nil _ _ _ _ _⟩, HB2⟩
    case round =>
      obtain ⟨kk, hkk, hg, rfl, HO, HB⟩ := hrel
      by_cases h6 : kk < 6
      · have hix := run_index_arr M kk h6
        have HL := Aside0.mk (list_calls (M kk) (hlt kk) wr)
        have hlen := setsOf_length M kk
        generalize hml : M kk = mk at hix HL
        have HM := Aside0.mk hml
        clear hml
        go_wp2_with (first | (go_at_call 18; refine HL.out.mono ?_; rintro e w3 ⟨v3, rfl, hr3, hb3⟩; obtain ⟨A3, c3, rfl⟩ := Kd.R_slice hr3; have HR3 := Aside0.mk hr3; have HB3 := Aside0.mk (below_then HB.out HB.out.size hb3); have HS3 := Aside0.mk (S_elder_ HO.out hb3); have hsz := hb3.size; clear hr3 hb3) | (at_builtin; refine X_pushS (Kd.slice 3 (Kd.int .i64)) wr.heap.size hsz rfl (.tmp 15) (.tmp 18) 24 43 _ 24 rfl Try.underlying24 info43 rfl (by decide) (by omega) _ (setsOf M kk) (bitsTo mk 6) _ rfl rfl ⟨_, rfl, R_young_ HR3.out HB.out.size⟩ HS3.out HB3.out (by omega) ?_; intro v4 w4 ho hb))
        go_roundg (6 - (kk + 1))
        case measure => omega
        case rel => exact ⟨kk + 1, by omega, by omega, by go_num, ⟨by rw [setsOf_succ, HM.out]; exact ho⟩, ⟨hb⟩⟩
      · have : kk = 6 := by omega
        subst this
        go_wp2_with fail
        go_ret2
        exact ⟨_, rfl, HO.out, HB.out⟩
  · have hgf : goodStepsB l = false := by simpa using hgood
    have HS := Aside0.mk (show conflictsOfB l = ([], false) from by simp [conflictsOfB, hgf])
    rw [hgf] at HG
    clear hr hgood hgf
    rw [HS.out]
    go_enter Try.func7, Try.ntmps7
    go_wp2_with (go_at_call 16; refine HG.out.mono ?_; rintro e w1 ⟨rfl, hb1⟩)
    go_ret2
    exact ⟨_, rfl, Kd.S_nil _ _ _ _ _, hb1⟩
end Go.Proofs.Ytmfagnalnooppaa.Q
