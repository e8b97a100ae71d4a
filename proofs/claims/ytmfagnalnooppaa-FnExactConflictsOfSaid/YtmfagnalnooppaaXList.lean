/- set.list of a set below 64: the places of its bits, rising, in memory of its own. -/
import Derived.Test.YtmfagnalnooppaaXBase
namespace Go.Proofs.Ytmfagnalnooppaa.Q
open Go.RowKit Go.Proofs.YtmfagnalnooppaaW.PrintWords Go.Proofs.YtmfagnalnooppaaW.PrintLast
set_option linter.unusedVariables false
set_option linter.unusedSimpArgs false

def bitOf (s k : Nat) : Bool := s / 2 ^ k % 2 == 1
def bitsTo (s : Nat) : Nat → List Int
  | 0 => []
  | k + 1 => if bitOf s k then bitsTo s k ++ [(k : Int)] else bitsTo s k
theorem bitsTo_length (s k : Nat) : (bitsTo s k).length ≤ k := by
  induction k with
  | zero => simp [bitsTo]
  | succ k ih =>
    simp only [bitsTo]
    split
    · simp; omega
    · omega
theorem bitsTo_end (s k j : Nat) (h : s / 2 ^ k = 0) : bitsTo s (k + j) = bitsTo s k := by
  induction j with
  | zero => rfl
  | succ j ih =>
    have h2 : s / 2 ^ (k + j) = 0 := by rw [Nat.pow_add, ← Nat.div_div_eq_div_mul, h, Nat.zero_div]
    have hb : bitOf s (k + j) = false := by unfold bitOf; rw [h2]; rfl
    rw [← Nat.add_assoc, bitsTo, hb, if_neg (by simp), ih]
theorem and_one_ (n : Nat) (hn : n < 64) : Go.bits .and .i64 (n : Int) 1 = ((n % 2 : Nat) : Int) := by
  revert n
  decide +kernel

set_option maxHeartbeats 2000000 in
theorem list_calls (s : Nat) (hs : s < 64) (w : World) :
    Calls Try.prog 18 #[.int .i64 (s : Int)] w fun e w' => ∃ v0_ : Value, e = .returned (v0_) ∧ Kd.R (Kd.int .i64) 3 w' w.heap.size (fun _ => True) v0_ (bitsTo s 6) ∧ Below w.heap.size w w' := by
  have hu3 := Try.underlying3
  have hu43 := Try.underlying43
  go_enter Try.func18, Try.ntmps18
  go_wp2
  go_loopg [3, 4] 7 (fun gg v3 v4 wr => ∃ kk : Nat, kk ≤ 6 ∧ 7 - kk ≤ gg ∧ v4 = .int .i64 kk ∧ Aside0 (Kd.R (Kd.int .i64) 3 wr w.heap.size (fun _ => True) v3 (bitsTo s kk)) ∧ Aside0 (Below w.heap.size w wr))
  case atStart => exact ⟨0, by omega, by omega, rfl, ⟨Kd.R_nil _ _ _ _ _⟩, ⟨Below.refl _ w⟩⟩
  case round =>
    obtain ⟨kk, hkk, hg, rfl, HO, HB⟩ := hrel
    have hlen := bitsTo_length s kk
    by_cases hz : s / 2 ^ kk = 0
    · have t1 : ((s : Int) / 2 ^ kk != 0) = false := by
        rw [bne_eq_false_iff_eq]; exact_mod_cast hz
      have HE := Aside0.mk (show bitsTo s 6 = bitsTo s kk from by
        have := bitsTo_end s kk (6 - kk) hz
        rwa [show kk + (6 - kk) = 6 by omega] at this)
      clear hz
      go_wp2_with fail
      go_ret
      exact ⟨_, rfl, by rw [HE.out]; exact HO.out, HB.out⟩
    · have hk6 : kk < 6 := by
        rcases Nat.lt_or_ge kk 6 with h | h
        · exact h
        · exfalso
          have : kk = 6 := by omega
          subst this
          omega
      have t1 : ((s : Int) / 2 ^ kk != 0) = true := by
        rw [bne_iff_ne]; exact_mod_cast hz
      have hlt : s / 2 ^ kk < 64 := Nat.lt_of_le_of_lt (Nat.div_le_self _ _) hs
      have ha := and_one_ (s / 2 ^ kk) hlt
      rw [show ((s / 2 ^ kk : Nat) : Int) = (s : Int) / 2 ^ kk from by push_cast; rfl] at ha
      cases hb : bitOf s kk with
      | true =>
        have hm : s / 2 ^ kk % 2 = 1 := by simpa [bitOf] using hb
        rw [hm] at ha
        have HE := Aside0.mk (show bitsTo s (kk + 1) = bitsTo s kk ++ [(kk : Int)] from by simp [bitsTo, hb])
        have t2 : (Go.bits .and .i64 ((s : Int) / 2 ^ kk) 1 == 1) = true := by rw [ha]; rfl
        clear ha hb hm hz
        go_wp2_with (at_builtin; refine X_push (Kd.int .i64) rfl (.tmp 16) (.tmp 18) 43 3 _ 8 rfl Try.underlying43 info3 rfl (by decide) (by omega) _ (bitsTo s kk) (kk : Int) _ rfl rfl rfl HO.out HB.out (by omega) ?_; intro v1 w1 ho hb)
        go_roundg (7 - (kk + 1))
        case measure => omega
        case rel => exact ⟨kk + 1, by omega, by omega, by go_num, ⟨by rw [HE.out]; exact ho⟩, ⟨hb⟩⟩
      | false =>
        have hm : s / 2 ^ kk % 2 = 0 := by
          have : ¬ (s / 2 ^ kk % 2 = 1) := by simpa [bitOf] using hb
          omega
        rw [hm] at ha
        have HE := Aside0.mk (show bitsTo s (kk + 1) = bitsTo s kk from by simp [bitsTo, hb])
        have t2 : (Go.bits .and .i64 ((s : Int) / 2 ^ kk) 1 == 1) = false := by rw [ha]; rfl
        clear ha hb hm hz
        go_wp2_with fail
        go_roundg (7 - (kk + 1))
        case measure => omega
        case rel => exact ⟨kk + 1, by omega, by omega, by go_num, ⟨by rw [HE.out]; exact HO.out⟩, ⟨HB.out⟩⟩
end Go.Proofs.Ytmfagnalnooppaa.Q
