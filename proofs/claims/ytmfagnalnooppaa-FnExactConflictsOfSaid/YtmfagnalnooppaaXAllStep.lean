/- Contracts of a function: printed for this claim. -/
import Derived.Test.YtmfagnalnooppaaXBase
namespace Go.Proofs.Ytmfagnalnooppaa.Q
open Go.RowKit Go.Proofs.YtmfagnalnooppaaW.PrintWords Go.Proofs.YtmfagnalnooppaaW.PrintLast Go.Proofs.YtmfagnalnooppaaW.PrintMore
attribute [local go_sem] max2_int min2_int max_two min_two max_three min_three max_four min_four   -- for this text's walks alone
set_option linter.unusedVariables false
set_option linter.unusedSimpArgs false

/-- What is asked of a predicate value over Step: at each element, in every world in which all that lay in w lies unturned. -/
def Pred_Step (g : Nat) (lb : Array Value) (p : S37 → Bool) (l : List S37) (w : World) : Prop :=
  ∀ (W : World) (x : S37), x ∈ l → Below w.heap.size w W → Calls Try.prog g (#[.agg #[.int .i64 x.f0, .int .i64 x.f1, .int .i64 x.f2]] ++ lb) W (fun e w' => e = .returned (.bool (p x)) ∧ Below W.heap.size W w')
set_option maxHeartbeats 2000000 in
theorem indexFunc_Step (g : Nat) (lb : Array Value) (p : S37 → Bool) (A : Option Addr) (c : Nat) (l : List S37) (w : World)
    (hr : Kd.C k37 w A l.length l) (hcap : l.length ≤ c) (eg : ∀ args w, (callFunc g args).run Try.prog w = .ok (.enter g args) w)
    (hp : Pred_Step g lb p l w) :
    Calls Try.prog 34 #[.slice A l.length c, .func (.func g) #[] lb] w fun e w' => e = .returned (.int .i64 (idxP p l)) ∧ Below w.heap.size w w' := by
  have hbig : l.length ≤ 9223372036854775807 := hr.2.1
  have HR := Aside0.mk hr
  have HP := Aside0.mk hp
  clear hr hp
  go_enter Try.func34, Try.ntmps34
  go_wp2
  go_loopg [5, 8] l.length (fun gg _ s8 wr => ∃ kk : Nat, kk ≤ l.length ∧ l.length - kk ≤ gg ∧ s8 = .int .i64 kk ∧ Aside0 (Below w.heap.size w wr) ∧ Aside0 (∀ j, j < kk → p (l.getD j z37) = false))
  case atStart => exact ⟨0, Nat.zero_le _, by omega, rfl, ⟨Below.refl _ w⟩, ⟨fun j hj => absurd hj (Nat.not_lt_zero _)⟩⟩
  case round =>
    obtain ⟨kk, hkk, hg, rfl, BW, F⟩ := hrel
    by_cases hlt : kk < l.length
    · have hltz : (kk : Int) < (l.length : Int) := by omega
      obtain ⟨ad, e, hx0, hx1, hx2⟩ := at_T37 (Kd.C_below HR.out BW.out) (kk : Int) (by omega) hltz
      subst e
      have hy0 : rd_T37 l (kk : Int) = l.getD kk z37 := rfl
      rw [hy0] at hx0 hx1 hx2
      clear hy0
      simp only [Int.toNat_natCast] at hx0 hx1 hx2
      have hcall := HP.out wr (l.getD kk z37) (mem_getD l z37 kk hlt) BW.out
      generalize hy : l.getD kk z37 = y at hcall hx0 hx1 hx2
      have B := Aside0.mk hy
      clear hy
      cases hq : p y with
      | true =>
        rw [hq] at hcall
        go_wp2_with (go_at_fn g; refine hcall.mono ?_; rintro e w' ⟨rfl, hb'⟩)
        go_ret
        refine ⟨?_, below_then BW.out BW.out.size hb'⟩
        rw [idxP_hit p l z37 kk hlt (by rw [B.out]; exact hq) F.out]
        rfl
      | false =>
        rw [hq] at hcall
        go_wp2_with (go_at_fn g; refine hcall.mono ?_; rintro e w' ⟨rfl, hb'⟩)
        go_roundg (l.length - (kk + 1))
        case measure => omega
        case rel =>
          refine ⟨kk + 1, by omega, by omega, by go_num, ⟨below_then BW.out BW.out.size hb'⟩, ⟨fun j hj => ?_⟩⟩
          by_cases e : j = kk
          · subst e
            rw [B.out]; exact hq
          · exact F.out j (by omega)
    · have hltz : ¬ (kk : Int) < (l.length : Int) := by omega
      have : kk = l.length := by omega
      subst this
      go_wp2
      go_ret
      refine ⟨?_, BW.out⟩
      rw [idxP_miss' p l z37 F.out]
      rfl
set_option maxHeartbeats 2000000 in
theorem containsFunc_Step (g : Nat) (lb : Array Value) (p : S37 → Bool) (A : Option Addr) (c : Nat) (l : List S37) (w : World)
    (hr : Kd.C k37 w A l.length l) (hcap : l.length ≤ c) (eg : ∀ args w, (callFunc g args).run Try.prog w = .ok (.enter g args) w)
    (hp : Pred_Step g lb p l w) :
    Calls Try.prog 30 #[.slice A l.length c, .func (.func g) #[] lb] w fun e w' => e = .returned (.bool (l.any p)) ∧ Below w.heap.size w w' := by
  rw [← idxP_nonneg p l]
  have HC := Aside0.mk (indexFunc_Step g lb p A c l w hr hcap eg hp)
  clear hr hp
  go_enter Try.func30, Try.ntmps30
  go_wp2_with (go_at_call 34; refine HC.out.mono ?_; rintro e w' ⟨rfl, hb'⟩)
  go_ret
  exact ⟨rfl, hb'⟩
set_option maxHeartbeats 2000000 in
/-- The closure of areAll: it answers the other way round. -/
theorem areAll1_Step (g : Nat) (lb : Array Value) (p : S37 → Bool) (l : List S37) (w : World) (B : Nat) (hB : B < w.heap.size) (hcell : w.cell? ⟨B, 0, none⟩ = some (.func (.func g) #[] lb))
    (eg : ∀ args w, (callFunc g args).run Try.prog w = .ok (.enter g args) w) (hp : Pred_Step g lb p l w) :
    Pred_Step 31 #[.pointer (some ⟨B, 0, none⟩)] (fun x => !p x) l w := fun W x hx hb => by
  have hc : W.cell? ⟨B, 0, none⟩ = some (.func (.func g) #[] lb) := (hb.cell (p := ⟨B, 0, none⟩) hB).trans hcell
  have hBW : B < W.heap.size := Nat.lt_of_lt_of_le hB hb.size
  have hne : B ≠ W.heap.size := by omega
  have HC := Aside0.mk (hp (W.alloc (.cells #[.int .i64 x.f0, .int .i64 x.f1, .int .i64 x.f2] 37)) x hx (hb.alloc hb.size _))
  clear hp
  show Calls Try.prog 31 #[.agg #[.int .i64 x.f0, .int .i64 x.f1, .int .i64 x.f2], .pointer (some ⟨B, 0, none⟩)] W _
  go_enter Try.func31, Try.ntmps31
  go_wp2_with (go_at_fn g; refine HC.out.mono ?_; rintro e w' ⟨rfl, hb'⟩)
  go_ret
  exact ⟨rfl, ((Below.refl _ W).alloc (Nat.le_refl _) _).trans (hb'.mono (by simp))⟩

set_option maxHeartbeats 2000000 in
theorem areAll_Step (g : Nat) (lb : Array Value) (p : S37 → Bool) (A : Option Addr) (c : Nat) (l : List S37) (w : World)
    (hr : Kd.C k37 w A l.length l) (hcap : l.length ≤ c) (eg : ∀ args w, (callFunc g args).run Try.prog w = .ok (.enter g args) w)
    (hp : Pred_Step g lb p l w) :
    Calls Try.prog 26 #[.slice A l.length c, .func (.func g) #[] lb] w fun e w' => e = .returned (.bool (l.all p)) ∧ Below w.heap.size w w' := by
  have e1 : ∀ args w, (callFunc 31 args).run Try.prog w = .ok (.enter 31 args) w := enters_of Try.func31 (by kernel_rfl) rfl
  have hb0 : Below w.heap.size w (w.alloc (.cells #[.func (.func g) #[] lb] 51)) := (Below.refl _ w).alloc (Nat.le_refl _) _
  have hp1 : Pred_Step g lb p l (w.alloc (.cells #[.func (.func g) #[] lb] 51)) := fun W x hx hb => hp W x hx (hb0.trans (hb.mono (by simp)))
  have HC := Aside0.mk (containsFunc_Step 31 #[.pointer (some ⟨w.heap.size, 0, none⟩)] (fun x => !p x) A c l (w.alloc (.cells #[.func (.func g) #[] lb] 51)) (Kd.C_below hr hb0) hcap e1
    (areAll1_Step g lb p l _ w.heap.size (by simp) (by simp) eg hp1))
  clear hr hp hp1
  go_enter Try.func26, Try.ntmps26
  go_wp2_with (go_at_call 30; refine HC.out.mono ?_; rintro e w' ⟨rfl, hb'⟩)
  go_ret
  exact ⟨by rw [not_any_not p l]; rfl, hb0.trans (hb'.mono (by simp))⟩
end Go.Proofs.Ytmfagnalnooppaa.Q
