/- spec.l7Put: a number put into a rising list; what was there is not written. -/
import Derived.Test.YtmfagnalnooppaaXBase
import Derived.Test.YtmfagnalnooppaaQSpecL1Has
namespace Go.Proofs.Ytmfagnalnooppaa.Q
open Go.RowKit Go.Proofs.YtmfagnalnooppaaW.PrintWords Go.Proofs.YtmfagnalnooppaaW.PrintLast
set_option linter.unusedVariables false
set_option linter.unusedSimpArgs false

theorem wrap_up_ (k n : Nat) (hk : k < n) (hn : n ≤ 9223372036854775807) : wrap64 ((k : Int) + 1) = ((k + 1 : Nat) : Int) := by
  unfold wrap64
  omega
theorem rd_nat (l : List Int) (i : Nat) : rd l (i : Int) = l.getD i 0 := rfl
theorem has_l0 (l : List Int) (hl : l.length ≤ 9223372036854775807) (n : Int) (d : Nat) : ∀ (k i : Nat), i + d = l.length → d < k → spec_l1Has.l0 k n l (l.length : Int) (i : Int) = some ((l.drop i).contains n) := by
  induction d with
  | zero =>
    intro k i hi hk
    obtain ⟨k, rfl⟩ : ∃ m, k = m + 1 := ⟨k - 1, by omega⟩
    simp only [spec_l1Has.l0]
    rw [if_neg (by omega), List.drop_eq_nil_of_le (by omega)]
    rfl
  | succ d ih =>
    intro k i hi hk
    obtain ⟨k, rfl⟩ : ∃ m, k = m + 1 := ⟨k - 1, by omega⟩
    have hlt : i < l.length := by omega
    simp only [spec_l1Has.l0]
    rw [if_pos (by omega), if_pos (by omega), if_pos (by omega), wrap_up_ i l.length hlt hl, rd_nat, ih k (i + 1) (by omega) (by omega), List.drop_eq_getElem_cons hlt, List.getD_eq_getElem?_getD, List.getElem?_eq_getElem hlt]
    simp only [Option.getD_some, List.contains_cons]
    by_cases h : l[i] = n
    · simp [h]
    · rw [if_neg h]
      have : (n == l[i]) = false := by rw [beq_eq_false_iff_ne]; exact fun e => h e.symm
      rw [this, Bool.false_or]
theorem has_f (l : List Int) (hl : l.length ≤ 9223372036854775807) (n : Int) : spec_l1Has.f (l.length + 1) l n = some (l.contains n) := by
  have := has_l0 l hl n l.length (l.length + 1) 0 (by omega) (by omega)
  simpa [spec_l1Has.f] using this

/-- Where n goes in. -/
def placeB (n : Int) : List Int → Nat
  | [] => 0
  | x :: l => if x < n then placeB n l + 1 else 0
theorem placeB_le (n : Int) (l : List Int) : placeB n l ≤ l.length := by
  induction l with
  | nil => simp [placeB]
  | cons x l ih =>
    simp only [placeB]
    split
    · simp; omega
    · simp
theorem placeB_at (n : Int) (l : List Int) (k : Nat) (hk : k ≤ l.length) (hlo : ∀ j, j < k → l.getD j 0 < n) (hhi : k < l.length → ¬ l.getD k 0 < n) : placeB n l = k := by
  induction l generalizing k with
  | nil => simp at hk; simp [placeB, hk]
  | cons x l ih =>
    cases k with
    | zero =>
      have := hhi (by simp)
      simp at this
      simp only [placeB]
      rw [if_neg (by omega)]
    | succ k =>
      have h0 := hlo 0 (by omega)
      simp at h0
      have := ih k (by simpa using hk) (fun j hj => by simpa using hlo (j + 1) (by omega)) (fun hj => by simpa using hhi (by simpa using hj))
      simp only [placeB, if_pos h0, this]
def putB (l : List Int) (n : Int) : List Int := if l.contains n then l else l.take (placeB n l) ++ n :: l.drop (placeB n l)

set_option maxHeartbeats 4000000 in
theorem l7Put_has (A : Option Addr) (c : Nat) (l : List Int) (n : Int) (w : World) (hr : Kd.C (Kd.int .i64) w A l.length l) (hcap : l.length ≤ c) (hh : l.contains n = true) :
    Calls Try.prog 25 #[.slice A l.length c, .int .i64 n] w fun e w' => e = .returned (.slice A l.length c) ∧ Below w.heap.size w w' := by
  have HH := Aside0.mk (spec_l1Has.calls (l.length + 1) A c l n true w hr hcap (by rw [has_f l hr.2.1 n, hh]))
  clear hr hh
  go_enter Try.func25, Try.ntmps25
  go_wp2_with (go_at_call 29; refine HH.out.mono ?_; rintro e w' ⟨rfl, hb'⟩)
  go_ret
  exact ⟨rfl, hb'.below⟩

set_option maxHeartbeats 4000000 in
theorem l7Put_new (A : Option Addr) (c : Nat) (l : List Int) (n : Int) (w : World) (hr : Kd.C (Kd.int .i64) w A l.length l) (hcap : l.length ≤ c) (hh : l.contains n = false) (hlen : l.length ≤ 1000) :
    Calls Try.prog 25 #[.slice A l.length c, .int .i64 n] w fun e w' => ∃ v, e = .returned v ∧ Kd.R (Kd.int .i64) 3 w' w.heap.size (fun _ => True) v (putB l n) ∧ Below w.heap.size w w' := by
  have HH := Aside0.mk (spec_l1Has.calls (l.length + 1) A c l n false w hr hcap (by rw [has_f l hr.2.1 n, hh]))
  have HR := Aside0.mk hr
  have HP := Aside0.mk (show putB l n = l.take (placeB n l) ++ n :: l.drop (placeB n l) from by unfold putB; rw [if_neg (by rw [hh]; simp)])
  clear hr hh
  rw [HP.out]
  go_enter Try.func25, Try.ntmps25
  go_wp2_with (go_at_call 29; refine HH.out.mono ?_; rintro e w1 ⟨rfl, hb1⟩; have HB1 := Aside0.mk hb1.below; clear hb1)
  go_loopg [5] l.length (fun gg v5 wr => ∃ kk : Nat, kk ≤ l.length ∧ l.length - kk ≤ gg ∧ v5 = .int .i64 kk ∧ Aside0 (∀ j, j < kk → l.getD j 0 < n) ∧ Aside0 (Below w.heap.size w wr))
  case atStart => exact ⟨0, by omega, by omega, rfl, ⟨fun j hj => absurd hj (Nat.not_lt_zero _)⟩, HB1⟩
  case round =>
    obtain ⟨kk, hkk, hg, rfl, F, HB⟩ := hrel
    obtain ⟨hcut1, hCt⟩ := X_cutTo (Kd.int .i64) 43 3 Try.underlying43 info3 A c l kk hkk hcap
    obtain ⟨A2, hcut2, hCd⟩ := X_cut (Kd.int .i64) 43 3 Try.underlying43 info3 A c l kk (kk : Int) rfl hkk hcap
    have HR1 := Aside0.mk (hCt w HR.out)
    have HR2 := Aside0.mk (hCd w HR.out)
    clear hCt hCd
    by_cases hlt : kk < l.length
    · have hltz : (kk : Int) < (l.length : Int) := by omega
      have ht0 : decide ((kk : Int) < (l.length : Int)) = true := decide_eq_true hltz
      obtain ⟨ad, cs, e, hcl_, hK_, hc_⟩ := Kd.C_get (Kd.C_below HR.out HB.out) (0 : Int) (kk : Int) (by omega) hltz
      subst e
      have hx0 : wr.cell? (ad.add kk) = some (.int .i64 (l.getD kk 0)) := by
        have h_ := hc_ 0 _ (by rw [show _ = _ from hK_]; rfl)
        simpa [show (Kd.int .i64).sz = 1 from rfl] using h_
      clear hcl_ hK_ hc_
      by_cases hn : l.getD kk 0 < n
      · have F2 := Aside0.mk (show ∀ j, j < kk + 1 → l.getD j 0 < n from fun j hj => by
          by_cases e : j = kk
          · subst e; exact hn
          · exact F.out j (by omega))
        generalize l.getD kk 0 = y at hx0 hn
        have hn1 : decide (y < n) = true := decide_eq_true hn
        go_wp2_with fail
        go_roundg (l.length - (kk + 1))
        case measure => omega
        case rel => exact ⟨kk + 1, by omega, by omega, by go_num, F2, HB⟩
      · have HPL := Aside0.mk (placeB_at n l kk hkk F.out (fun _ => hn))
        generalize l.getD kk 0 = y at hx0 hn
        have hn1 : decide (y < n) = false := decide_eq_false hn
        go_wp2_with (first | (at_builtin; refine X_pushAll (Kd.int .i64) (fun _ _ _ _ _ h => h) rfl (.tmp 25) (.tmp 28) 43 3 _ 8 rfl Try.underlying43 info3 rfl (by decide) (by omega) (.slice none 0 0) [] (l.take kk) _ kk c rfl rfl (Kd.R_nil _ _ _ _ _) (Kd.C_below HR1.out HB.out) HB.out (by simp; omega) ?_; intro v1 w1 ho hb _; have HO1 := Aside0.mk ho; have HB1 := Aside0.mk hb; clear ho hb) | (at_builtin; refine X_push (Kd.int .i64) rfl (.tmp 30) (.tmp 32) 43 3 _ 8 rfl Try.underlying43 info3 rfl (by decide) (by omega) v1 ([] ++ l.take kk) n _ rfl rfl rfl HO1.out HB1.out (by simp; omega) ?_; intro v2 w2 ho hb; have HO2 := Aside0.mk ho; have HB2 := Aside0.mk hb; clear ho hb) | (at_builtin; refine X_pushAll (Kd.int .i64) (fun _ _ _ _ _ h => h) rfl (.tmp 34) (.tmp 37) 43 3 _ 8 rfl Try.underlying43 info3 rfl (by decide) (by omega) v2 ([] ++ l.take kk ++ [n]) (l.drop kk) A2 (l.length - kk) (c - kk) rfl rfl HO2.out (Kd.C_below HR2.out HB2.out) HB2.out (by simp; omega) ?_; intro v3 w3 ho hb _; have HO3 := Aside0.mk ho; have HB3 := Aside0.mk hb; clear ho hb))
        go_ret
        exact ⟨_, rfl, by rw [HPL.out]; simpa using HO3.out, HB3.out⟩
    · have hltz : ¬ (kk : Int) < (l.length : Int) := by omega
      have ht0 : decide ((kk : Int) < (l.length : Int)) = false := decide_eq_false hltz
      have HPL := Aside0.mk (placeB_at n l kk hkk F.out (fun h => absurd h hlt))
      go_wp2_with (first | (at_builtin; refine X_pushAll (Kd.int .i64) (fun _ _ _ _ _ h => h) rfl (.tmp 25) (.tmp 28) 43 3 _ 8 rfl Try.underlying43 info3 rfl (by decide) (by omega) (.slice none 0 0) [] (l.take kk) _ kk c rfl rfl (Kd.R_nil _ _ _ _ _) (Kd.C_below HR1.out HB.out) HB.out (by simp; omega) ?_; intro v1 w1 ho hb _; have HO1 := Aside0.mk ho; have HB1 := Aside0.mk hb; clear ho hb) | (at_builtin; refine X_push (Kd.int .i64) rfl (.tmp 30) (.tmp 32) 43 3 _ 8 rfl Try.underlying43 info3 rfl (by decide) (by omega) v1 ([] ++ l.take kk) n _ rfl rfl rfl HO1.out HB1.out (by simp; omega) ?_; intro v2 w2 ho hb; have HO2 := Aside0.mk ho; have HB2 := Aside0.mk hb; clear ho hb) | (at_builtin; refine X_pushAll (Kd.int .i64) (fun _ _ _ _ _ h => h) rfl (.tmp 34) (.tmp 37) 43 3 _ 8 rfl Try.underlying43 info3 rfl (by decide) (by omega) v2 ([] ++ l.take kk ++ [n]) (l.drop kk) A2 (l.length - kk) (c - kk) rfl rfl HO2.out (Kd.C_below HR2.out HB2.out) HB2.out (by simp; omega) ?_; intro v3 w3 ho hb _; have HO3 := Aside0.mk ho; have HB3 := Aside0.mk hb; clear ho hb))
      go_ret
      exact ⟨_, rfl, by rw [HPL.out]; simpa using HO3.out, HB3.out⟩
end Go.Proofs.Ytmfagnalnooppaa.Q
