/- Lemmas for this claim: words and contracts of the print, cut down by a program to what is used, and our own texts (part 2). -/
import Derived.Test.YtbnmkikifjidjaaProg
import Derived.Below
import Derived.Deep.Draws
import Derived.Deep.AppendLies
import Derived.Maps.AppendAt
import Derived.OwnWalk
import Derived.Laws.BytesArg
import Derived.Laws.MakeOwn
import Derived.Laws.OwnMore
import Derived.Deep.OwnRows
import Derived.Tactics
import Derived.Lib.ConvBytes
import Derived.Laws.Slices
import Derived.WalkKit
import Derived.KernelRfl
import Derived.RowKit3
import Derived.Deep.LoopGhost
import Derived.Deep.QuietTactic
import Derived.BigQuiet
import Derived.WideLaws
import Derived.Deep.DeepCutAuto
import Derived.Deep.CutBlock
import Derived.Deep.RegionHeld3
import Derived.Laws.Rows
import Derived.Lib.AppendStr
import Derived.ArgAppend
import Derived.Laws.IdiomCopy
import Derived.OrdersHeld
import Derived.Laws.BitsLemmas
import Derived.RowKit
import Derived.Lib.SliceRun
import Derived.Laws.Cells
import Derived.Shelf.Abstract
import Derived.Lib.Hide
import Derived.Outline
import Derived.IntWalk
import Derived.Test.YtbnmkikifjidjaaY1
section
/- Contracts of a function, printed for this claim by a program of ours over the kit's print. -/
namespace Go.Proofs.Ytbnmkikifjidjaa.Q
open Go.RowKit Go.Proofs.YtbnmkikifjidjaaW.PrintWords Go.Proofs.YtbnmkikifjidjaaW.PrintLast Go.Proofs.YtbnmkikifjidjaaW.PrintMore
attribute [local go_sem] max2_int min2_int max_two min_two max_three min_three max_four min_four   -- for this text's walks alone
set_option linter.unusedVariables false
set_option linter.unusedSimpArgs false

def errW : Option Int → Value
 | none => .nilIface
 | some c => .iface 0 (.int .i64 c)
theorem errW_none : errW none = .nilIface := rfl
theorem errW_some (c : Int) : errW (some c) = .iface 0 (.int .i64 c) := rfl

theorem info3 : (Try.prog.info? 3).map (fun i => (i.zero, i.size, i.bytes)) = some (some (.int .i64 0), 1, 8) := by kernel_rfl
theorem info30 : (Try.prog.info? 30).map (fun i => (i.zero, i.size, i.bytes)) = some (some (.agg #[(.slice none 0 0), (.int .i64 0), (.int .i64 0)]), 3, 40) := by kernel_rfl
-- the values' own types

/-! #### struct type 25 -/
structure S25 where
 f0 : (List Int)
def z25 : S25 := ⟨([] : List Int)⟩
def k25 : Kd S25 := Kd.iso (Kd.slice 3 (Kd.int .i64)) (fun x : S25 => x.f0)
theorem k25_open {w : World} {x : S25} {cs : List Value} (h : k25.K w x cs) : ∃ A0 c0, cs = [.slice A0 x.f0.length c0] ∧ x.f0.length ≤ c0 ∧ (Kd.int .i64).C w A0 x.f0.length x.f0 := by
 obtain ⟨A0, c0, rfl, l0, g0⟩ := h
 exact ⟨A0, c0, rfl, l0, g0⟩

/-! #### struct type 75 -/
structure S75 where
 f0 : S25
 f1 : Int
 f2 : Int
def z75 : S75 := ⟨z25, (0 : Int), (0 : Int)⟩
def k75 : Kd S75 := Kd.iso (Kd.pair k25 (Kd.pair (Kd.int .i64) (Kd.int .i64))) (fun x : S75 => (x.f0, x.f1, x.f2))
theorem k75_open {w : World} {x : S75} {cs : List Value} (h : k75.K w x cs) : ∃ A0 c0, cs = [.slice A0 x.f0.f0.length c0, .int .i64 x.f1, .int .i64 x.f2] ∧ x.f0.f0.length ≤ c0 ∧ (Kd.int .i64).C w A0 x.f0.f0.length x.f0.f0 := by
 obtain ⟨_, _, rfl, s0, ⟨_, _, rfl, rfl, rfl⟩⟩ := h
 obtain ⟨A0, c0, rfl, l0, g0⟩ := k25_open s0
 exact ⟨A0, c0, rfl, l0, g0⟩
def rd_T75 (xs : List S75) (i : Int) : S75 := xs.getD i.toNat z75
theorem at_T75 {w : World} {A : Option Addr} {n : Nat} {xs : List S75} (h : Kd.C k75 w A n xs) (i : Int) (h0 : 0 ≤ i) (h1 : i < n) : ∃ ad A0 c0, A = some ad ∧ w.cell? (ad.add (i.toNat * 3)) = some (.slice A0 (rd_T75 xs i).f0.f0.length c0) ∧ w.cell? ⟨(ad.add (i.toNat * 3)).block, (ad.add (i.toNat * 3)).off + 1, none⟩ = some (.int .i64 (rd_T75 xs i).f1) ∧ w.cell? ⟨(ad.add (i.toNat * 3)).block, (ad.add (i.toNat * 3)).off + 2, none⟩ = some (.int .i64 (rd_T75 xs i).f2) ∧ (rd_T75 xs i).f0.f0.length ≤ c0 ∧ (Kd.int .i64).C w A0 (rd_T75 xs i).f0.f0.length (rd_T75 xs i).f0.f0 := by
 obtain ⟨ad, c, e, _, hK, hc0⟩ := Kd.C_get h z75 i h0 h1
 have hc : ∀ j u, c[j]? = some u → w.cell? (ad.add (i.toNat * 3 + j)) = some u := hc0
 obtain ⟨A0, c0, rfl, l0, g0⟩ := k75_open hK
 exact ⟨ad, A0, c0, e, hc 0 _ rfl, by rw [← add_field _ _ 1 (by omega)]; exact hc 1 _ rfl, by rw [← add_field _ _ 2 (by omega)]; exact hc 2 _ rfl, l0, g0⟩

/-! #### struct type 28 -/
structure S28 where
 f0 : (List Int)
def z28 : S28 := ⟨([] : List Int)⟩
def k28 : Kd S28 := Kd.iso (Kd.slice 3 (Kd.int .i64)) (fun x : S28 => x.f0)
theorem k28_open {w : World} {x : S28} {cs : List Value} (h : k28.K w x cs) : ∃ A0 c0, cs = [.slice A0 x.f0.length c0] ∧ x.f0.length ≤ c0 ∧ (Kd.int .i64).C w A0 x.f0.length x.f0 := by
 obtain ⟨A0, c0, rfl, l0, g0⟩ := h
 exact ⟨A0, c0, rfl, l0, g0⟩
theorem k28_openM {w : World} {base : Nat} {ok : Nat → Prop} {x : S28} {cs : List Value} (h : k28.M w base ok x cs) : ∃ v0, cs = [v0] ∧ (Kd.int .i64).R 3 w base ok v0 x.f0 := by
 obtain ⟨v0, rfl, g0⟩ := h
 exact ⟨v0, rfl, g0⟩
theorem k28_mkM (w : World) (base : Nat) (ok : Nat → Prop) (x : S28) {v0 : Value} (g0 : (Kd.int .i64).R 3 w base ok v0 x.f0) : k28.M w base ok x [v0] := ⟨v0, rfl, g0⟩

/-! #### struct type 30 -/
structure S30 where
 f0 : S28
 f1 : Int
 f2 : Int
def z30 : S30 := ⟨z28, (0 : Int), (0 : Int)⟩
def k30 : Kd S30 := Kd.iso (Kd.pair k28 (Kd.pair (Kd.int .i64) (Kd.int .i64))) (fun x : S30 => (x.f0, x.f1, x.f2))
theorem k30_open {w : World} {x : S30} {cs : List Value} (h : k30.K w x cs) : ∃ A0 c0, cs = [.slice A0 x.f0.f0.length c0, .int .i64 x.f1, .int .i64 x.f2] ∧ x.f0.f0.length ≤ c0 ∧ (Kd.int .i64).C w A0 x.f0.f0.length x.f0.f0 := by
 obtain ⟨_, _, rfl, s0, ⟨_, _, rfl, rfl, rfl⟩⟩ := h
 obtain ⟨A0, c0, rfl, l0, g0⟩ := k28_open s0
 exact ⟨A0, c0, rfl, l0, g0⟩
theorem k30_openM {w : World} {base : Nat} {ok : Nat → Prop} {x : S30} {cs : List Value} (h : k30.M w base ok x cs) : ∃ v0, cs = [v0, .int .i64 x.f1, .int .i64 x.f2] ∧ (Kd.int .i64).R 3 w base ok v0 x.f0.f0 := by
 obtain ⟨_, _, rfl, s0, ⟨_, _, rfl, rfl, rfl⟩⟩ := h
 obtain ⟨v0, rfl, g0⟩ := k28_openM s0
 exact ⟨v0, rfl, g0⟩
theorem k30_mkM (w : World) (base : Nat) (ok : Nat → Prop) (x : S30) {v0 : Value} (g0 : (Kd.int .i64).R 3 w base ok v0 x.f0.f0) : k30.M w base ok x [v0, .int .i64 x.f1, .int .i64 x.f2] := ⟨[v0], [.int .i64 x.f1, .int .i64 x.f2], rfl, (k28_mkM w base ok x.f0 g0), ⟨[.int .i64 x.f1], [.int .i64 x.f2], rfl, rfl, rfl⟩⟩
def rd_T30 (xs : List S30) (i : Int) : S30 := xs.getD i.toNat z30
theorem at_T30 {w : World} {A : Option Addr} {n : Nat} {xs : List S30} (h : Kd.C k30 w A n xs) (i : Int) (h0 : 0 ≤ i) (h1 : i < n) : ∃ ad A0 c0, A = some ad ∧ w.cell? (ad.add (i.toNat * 3)) = some (.slice A0 (rd_T30 xs i).f0.f0.length c0) ∧ w.cell? ⟨(ad.add (i.toNat * 3)).block, (ad.add (i.toNat * 3)).off + 1, none⟩ = some (.int .i64 (rd_T30 xs i).f1) ∧ w.cell? ⟨(ad.add (i.toNat * 3)).block, (ad.add (i.toNat * 3)).off + 2, none⟩ = some (.int .i64 (rd_T30 xs i).f2) ∧ (rd_T30 xs i).f0.f0.length ≤ c0 ∧ (Kd.int .i64).C w A0 (rd_T30 xs i).f0.f0.length (rd_T30 xs i).f0.f0 := by
 obtain ⟨ad, c, e, _, hK, hc0⟩ := Kd.C_get h z30 i h0 h1
 have hc : ∀ j u, c[j]? = some u → w.cell? (ad.add (i.toNat * 3 + j)) = some u := hc0
 obtain ⟨A0, c0, rfl, l0, g0⟩ := k30_open hK
 exact ⟨ad, A0, c0, e, hc 0 _ rfl, by rw [← add_field _ _ 1 (by omega)]; exact hc 1 _ rfl, by rw [← add_field _ _ 2 (by omega)]; exact hc 2 _ rfl, l0, g0⟩

/-- A store of a row's value: one cell. -/
theorem st_row_ {α : Type} {d : Kd α} {e base : Nat} {w : World} {ok : Nat → Prop} {v : Value} {xs : List α} (h : d.R e w base ok v xs) : ∀ (P : Program) (W : World) (a : Addr) (m : Mode), (store a v m).run P W = stored P W a v m := by
 obtain ⟨A, c, rfl⟩ := Kd.R_slice h
 exact fun P W a m => run_store P W a _ m rfl
end Go.Proofs.Ytbnmkikifjidjaa.Q
end
section
/- Words of this claim's own walks: appends to one row, predicates over lists, small facts. -/
namespace Go.Proofs.Ytbnmkikifjidjaa.Q
open Go.RowKit Go.Proofs.YtbnmkikifjidjaaW.PrintWords Go.Proofs.YtbnmkikifjidjaaW.PrintLast
set_option linter.unusedVariables false
set_option linter.unusedSimpArgs false

/-! ### appends to the one row that is held -/
section
variable {P : Program} {ops : Array Oper} {rest : List Oper} {o : Oper} {a : Act} {Q : Exit → Act → World → Prop} {α : Type}
/-- A whole row that is read, of elements that lead nowhere, appended. -/
theorem X_pushAll (d : Kd α) (hflat : ∀ (W : World) (b : Nat) (ok : Nat → Prop) (x : α) (cs : List Value), d.K W x cs → d.M W b ok x cs) {w W : World} (hgd : o.guard = none) (s x : Operand) (t e : TypeId) (z : Value) (bytes : Nat)
  (ho : o.op = .call { callee := .builtin .append, args := #[s, x], argTypes := #[t, t] })
  (ht : P.underlying t = some (.slice e)) (hinfo : (P.info? e).map (fun i => (i.zero, i.size, i.bytes)) = some (some z, d.sz, bytes)) (hz : z.cells.size = d.sz) (hs0 : 0 < d.sz) (hb0 : 0 < bytes)
  (v : Value) (xs ys : List α) (A : Option Addr) (m c : Nat) (hs : a.eval s = v) (hx : a.eval x = .slice A m c)
  (HO : d.R e W w.heap.size (fun _ => True) v xs) (HR : d.C W A m ys) (HB : Below w.heap.size w W) (hl : (xs.length + m) * bytes ≤ 140737488355328)
  (h : ∀ v1 w1, d.R e w1 w.heap.size (fun _ => True) v1 (xs ++ ys) → Below w.heap.size w w1 → Below W.heap.size W W → wpList P ops Q rest (a.put o.dst v1) w1) :
  wpList P ops Q (o :: rest) a W :=
 Kd.R_append_rows d (Rr := d.K W) (w0 := w) w.heap.size hgd s x t e z bytes ho ht hinfo hz hs0 hb0 v xs ys A m c (fun _ => True) (fun _ => False) hs hx HO HR (fun x cs hk => hflat W _ _ x cs hk) (fun _ hk => hk.elim) (fun _ _ => trivial) HB HB.size hl
  fun v1 w1 h1 h2 _ _ => h v1 w1 h1 h2 (Below.refl _ _)
end

/-! ### predicates over lists -/
/-- The first place at which p holds, or -1. -/
def idxP {α : Type} (p : α → Bool) : List α → Int
 | [] => -1
 | x :: l => if p x then 0 else if idxP p l < 0 then -1 else idxP p l + 1
theorem idxP_ge {α : Type} (p : α → Bool) (l : List α) : -1 ≤ idxP p l := by
 induction l with
 | nil => simp [idxP]
 | cons x l ih =>
  simp only [idxP]
  split
  ·omega
  ·split <;> omega
theorem idxP_miss {α : Type} (p : α → Bool) (l : List α) (h : ∀ x ∈ l, p x = false) : idxP p l = -1 := by
 induction l with
 | nil => rfl
 | cons x l ih => simp [idxP, h x (by simp), ih (fun y hy => h y (by simp [hy]))]
theorem idxP_miss' {α : Type} (p : α → Bool) (l : List α) (d : α) (h : ∀ j, j < l.length → p (l.getD j d) = false) : idxP p l = -1 := idxP_miss p l fun x hx => by
 obtain ⟨j, hj, rfl⟩ := List.getElem_of_mem hx
 have := h j hj
 simpa [List.getD_eq_getElem?_getD, List.getElem?_eq_getElem hj] using this
theorem idxP_hit {α : Type} (p : α → Bool) (l : List α) (d : α) (k : Nat) (hk : k < l.length) (h : p (l.getD k d) = true) (hb : ∀ j, j < k → p (l.getD j d) = false) : idxP p l = k := by
 induction l generalizing k with
 | nil => simp at hk
 | cons x l ih =>
  cases k with
  | zero => simp at h; simp [idxP, h]
  | succ k =>
   have h0 := hb 0 (by omega)
   simp at h0
   have := ih k (by simpa using hk) (by simpa using h) (fun j hj => by simpa using hb (j + 1) (by omega))
   simp only [idxP, h0, this]
   simp
   omega
theorem idxP_nonneg {α : Type} (p : α → Bool) (l : List α) : decide (0 ≤ idxP p l) = l.any p := by
 induction l with
 | nil => simp [idxP]
 | cons x l ih =>
  have := idxP_ge p l
  cases h : p x with
  | true => simp [idxP, h]
  | false =>
   simp only [idxP, h, List.any_cons, Bool.false_or, ← ih]
   by_cases h0 : idxP p l < 0
   ·simp [h0]
   ·simp [h0]; omega
theorem not_any_not {α : Type} (p : α → Bool) (l : List α) : l.all p = !(l.any fun x => !p x) := by
 induction l with
 | nil => rfl
 | cons x l ih => simp [ih]
theorem mem_getD {α : Type} (l : List α) (d : α) (k : Nat) (h : k < l.length) : l.getD k d ∈ l := by
 rw [List.getD_eq_getElem?_getD, List.getElem?_eq_getElem h]
 exact List.getElem_mem h
theorem ret_bool_ {a b : Bool} (h : a = b) : Ending.returned (.bool a) = .returned (.bool b) := by rw [h]
/-- An empty slice that was built: a block of its own, of no cells. -/
theorem R_built0 {α : Type} (d : Kd α) (e : Nat) (w : World) : d.R e (w.alloc (.cells #[] e)) w.heap.size (fun _ => True) (.slice (some ⟨w.heap.size, 0, none⟩) 0 0) ([] : List α) :=
 ⟨fun _ _ => trivial, [], ⟨by simp, Or.inr ⟨w.heap.size, 0, #[], rfl, Nat.le_refl _, heap_alloc_new w _, Nat.le_refl _, Nat.zero_le _, by simp, by simp⟩⟩, by simp, fun j p hj => by simp at hj⟩
/-- A nil slice reads as the empty list. -/
theorem C_nil_ {α : Type} {d : Kd α} {w : World} {l : List α} (h : d.C w none l.length l) : l = [] := by
 by_cases hp : 0 < l.length
 ·obtain ⟨ad, e, _⟩ := h.2.2 hp
  cases e
 ·exact List.eq_nil_of_length_eq_zero (by omega)
end Go.Proofs.Ytbnmkikifjidjaa.Q
end
section
/- Contracts of a function, printed for this claim by a program of ours over the kit's print. -/
namespace Go.Proofs.Ytbnmkikifjidjaa.Q
open Go.RowKit Go.Proofs.YtbnmkikifjidjaaW.PrintWords Go.Proofs.YtbnmkikifjidjaaW.PrintLast Go.Proofs.YtbnmkikifjidjaaW.PrintMore
attribute [local go_sem] max2_int min2_int max_two min_two max_three min_three max_four min_four   -- for this text's walks alone
set_option linter.unusedVariables false
set_option linter.unusedSimpArgs false

/-- What is asked of a predicate value over Int: at each element, in every world in which all that lay in w lies unturned. -/
def Pred_Int (g : Nat) (lb : Array Value) (p : Int → Bool) (l : List Int) (w : World) : Prop :=
 ∀ (W : World) (x : Int), x ∈ l → Below w.heap.size w W → Calls Try.prog g (#[.int .i64 x] ++ lb) W (fun e w' => e = .returned (.bool (p x)) ∧ Below W.heap.size W w')
set_option maxHeartbeats 2000000 in
theorem indexFunc_Int (g : Nat) (lb : Array Value) (p : Int → Bool) (A : Option Addr) (c : Nat) (l : List Int) (w : World)
  (hr : Kd.C (Kd.int .i64) w A l.length l) (hcap : l.length ≤ c) (eg : ∀ args w, (callFunc g args).run Try.prog w = .ok (.enter g args) w)
  (hp : Pred_Int g lb p l w) :
  Calls Try.prog 110 #[.slice A l.length c, .func (.func g) #[] lb] w fun e w' => e = .returned (.int .i64 (idxP p l)) ∧ Below w.heap.size w w' := by
 have hbig : l.length ≤ 9223372036854775807 := hr.2.1
 have HR := Aside0.mk hr
 have HP := Aside0.mk hp
 clear hr hp
 go_enter Try.func110, Try.ntmps110
 go_wp2
 go_loopg [5, 8] l.length (fun gg _ s8 wr => ∃ kk : Nat, kk ≤ l.length ∧ l.length - kk ≤ gg ∧ s8 = .int .i64 kk ∧ Aside0 (Below w.heap.size w wr) ∧ Aside0 (∀ j, j < kk → p (l.getD j 0) = false))
 case atStart => exact ⟨0, Nat.zero_le _, by omega, rfl, ⟨Below.refl _ w⟩, ⟨fun j hj => absurd hj (Nat.not_lt_zero _)⟩⟩
 case round =>
  obtain ⟨kk, hkk, hg, rfl, BW, F⟩ := hrel
  by_cases hlt : kk < l.length
  ·have hltz : (kk : Int) < (l.length : Int) := by omega
   obtain ⟨ad, cs, e, hcl_, hK_, hc_⟩ := Kd.C_get (Kd.C_below HR.out BW.out) 0 (kk : Int) (by omega) hltz
   subst e
   have hx0 : wr.cell? (ad.add kk) = some (.int .i64 (l.getD kk 0)) := by have h_ := hc_ 0 _ (by rw [show _ = _ from hK_]; rfl); simpa [show ((Kd.int .i64)).sz = 1 from rfl] using h_
   clear hcl_ hK_ hc_
   have hcall := HP.out wr (l.getD kk 0) (mem_getD l 0 kk hlt) BW.out
   generalize hy : l.getD kk 0 = y at hcall hx0
   have B := Aside0.mk hy
   clear hy
   cases hq : p y with
   | true =>
    rw [hq] at hcall
    go_wp2_with (go_at_fn g; refine hcall.mono ?_; rintro e w' ⟨rfl, hb'⟩)
    go_ret
    refine ⟨?_, below_then BW.out BW.out.size hb'⟩
    rw [idxP_hit p l 0 kk hlt (by rw [B.out]; exact hq) F.out]
    rfl
   | false =>
    rw [hq] at hcall
    go_wp2_with (go_at_fn g; refine hcall.mono ?_; rintro e w' ⟨rfl, hb'⟩)
    go_roundg (l.length - (kk + 1))
    case measure => omega
    case rel =>
     refine ⟨kk + 1, by omega, by omega, by go_num, ⟨below_then BW.out BW.out.size hb'⟩, ⟨fun j hj => ?_⟩⟩
     by_cases e : j = kk
     ·subst e
      rw [B.out]; exact hq
     ·exact F.out j (by omega)
  ·have hltz : ¬ (kk : Int) < (l.length : Int) := by omega
   have : kk = l.length := by omega
   subst this
   go_wp2
   go_ret
   refine ⟨?_, BW.out⟩
   rw [idxP_miss' p l 0 F.out]
   rfl
set_option maxHeartbeats 2000000 in
theorem containsFunc_Int (g : Nat) (lb : Array Value) (p : Int → Bool) (A : Option Addr) (c : Nat) (l : List Int) (w : World)
  (hr : Kd.C (Kd.int .i64) w A l.length l) (hcap : l.length ≤ c) (eg : ∀ args w, (callFunc g args).run Try.prog w = .ok (.enter g args) w)
  (hp : Pred_Int g lb p l w) :
  Calls Try.prog 108 #[.slice A l.length c, .func (.func g) #[] lb] w fun e w' => e = .returned (.bool (l.any p)) ∧ Below w.heap.size w w' := by
 rw [← idxP_nonneg p l]
 have HC := Aside0.mk (indexFunc_Int g lb p A c l w hr hcap eg hp)
 clear hr hp
 go_enter Try.func108, Try.ntmps108
 go_wp2_with (go_at_call 110; refine HC.out.mono ?_; rintro e w' ⟨rfl, hb'⟩)
 go_ret
 exact ⟨rfl, hb'⟩
set_option maxHeartbeats 2000000 in
/-- The closure of areAll: it answers the other way round. -/
theorem areAll1_Int (g : Nat) (lb : Array Value) (p : Int → Bool) (l : List Int) (w : World) (B : Nat) (hB : B < w.heap.size) (hcell : w.cell? ⟨B, 0, none⟩ = some (.func (.func g) #[] lb))
  (eg : ∀ args w, (callFunc g args).run Try.prog w = .ok (.enter g args) w) (hp : Pred_Int g lb p l w) :
  Pred_Int 109 #[.pointer (some ⟨B, 0, none⟩)] (fun x => !p x) l w := fun W x hx hb => by
 have hc : W.cell? ⟨B, 0, none⟩ = some (.func (.func g) #[] lb) := (hb.cell (p := ⟨B, 0, none⟩) hB).trans hcell
 have hBW : B < W.heap.size := Nat.lt_of_lt_of_le hB hb.size
 have hne : B ≠ W.heap.size := by omega
 have HC := Aside0.mk (hp W x hx hb)
 clear hp
 show Calls Try.prog 109 #[.int .i64 x, .pointer (some ⟨B, 0, none⟩)] W _
 go_enter Try.func109, Try.ntmps109
 go_wp2_with (go_at_fn g; refine HC.out.mono ?_; rintro e w' ⟨rfl, hb'⟩)
 go_ret
 exact ⟨rfl, hb'⟩

set_option maxHeartbeats 2000000 in
theorem areAll_Int (g : Nat) (lb : Array Value) (p : Int → Bool) (A : Option Addr) (c : Nat) (l : List Int) (w : World)
  (hr : Kd.C (Kd.int .i64) w A l.length l) (hcap : l.length ≤ c) (eg : ∀ args w, (callFunc g args).run Try.prog w = .ok (.enter g args) w)
  (hp : Pred_Int g lb p l w) :
  Calls Try.prog 104 #[.slice A l.length c, .func (.func g) #[] lb] w fun e w' => e = .returned (.bool (l.all p)) ∧ Below w.heap.size w w' := by
 have e1 : ∀ args w, (callFunc 109 args).run Try.prog w = .ok (.enter 109 args) w := enters_of Try.func109 (by kernel_rfl) rfl
 have hb0 : Below w.heap.size w (w.alloc (.cells #[.func (.func g) #[] lb] 104)) := (Below.refl _ w).alloc (Nat.le_refl _) _
 have hp1 : Pred_Int g lb p l (w.alloc (.cells #[.func (.func g) #[] lb] 104)) := fun W x hx hb => hp W x hx (hb0.trans (hb.mono (by simp)))
 have HC := Aside0.mk (containsFunc_Int 109 #[.pointer (some ⟨w.heap.size, 0, none⟩)] (fun x => !p x) A c l (w.alloc (.cells #[.func (.func g) #[] lb] 104)) (Kd.C_below hr hb0) hcap e1
  (areAll1_Int g lb p l _ w.heap.size (by simp) (by simp) eg hp1))
 clear hr hp hp1
 go_enter Try.func104, Try.ntmps104
 go_wp2_with (go_at_call 108; refine HC.out.mono ?_; rintro e w' ⟨rfl, hb'⟩)
 go_ret
 exact ⟨by rw [not_any_not p l]; rfl, hb0.trans (hb'.mono (by simp))⟩
end Go.Proofs.Ytbnmkikifjidjaa.Q
end
section
/- Contracts of a function, printed for this claim by a program of ours over the kit's print. -/
namespace Go.Proofs.Ytbnmkikifjidjaa.Q
open Go.RowKit Go.Proofs.YtbnmkikifjidjaaW.PrintWords Go.Proofs.YtbnmkikifjidjaaW.PrintLast Go.Proofs.YtbnmkikifjidjaaW.PrintMore
attribute [local go_sem] max2_int min2_int max_two min_two max_three min_three max_four min_four   -- for this text's walks alone
set_option linter.unusedVariables false
set_option linter.unusedSimpArgs false

/-! ### impl_within: function 98 -/
def impl_within.f (a0 : Int) (a1 : Int) (a2 : Int) : Option (Bool) := if a1 ≤ a0 then (some (decide (a0 ≤ a2))) else (some false)
set_option maxHeartbeats 8000000 in
set_option maxRecDepth 100000 in
theorem impl_within.calls (a0 : Int) (a1 : Int) (a2 : Int) (r : Bool) (w : World) (h : impl_within.f a0 a1 a2 = some r) :
  Calls Try.prog 98 #[.int .i64 a0, .int .i64 a1, .int .i64 a2] w fun e w' => e = .returned (.bool r) ∧ Drawn0 w w' := by
 have H : (if a1 ≤ a0 then (some (decide (a0 ≤ a2))) else (some false)) = some r := h
 clear h
 by_cases c4 : a1 ≤ a0
 ·rw [if_pos c4] at H
  have c4b0 : decide (a1 ≤ a0) = true := decide_eq_true c4
  clear c4
  obtain rfl := Option.some.inj H
  go_enter Try.func98, Try.ntmps98
  go_wp2
  go_ret
  exact ⟨by first | rfl | (simp; done) | (simp [*]; done), by repeat (first | exact Drawn0.refl _ | apply Drawn0.step)⟩
 ·rw [if_neg c4] at H
  have c4b0 : decide (a1 ≤ a0) = false := decide_eq_false c4
  clear c4
  obtain rfl := Option.some.inj H
  go_enter Try.func98, Try.ntmps98
  go_wp2
  go_ret
  exact ⟨by first | rfl | (simp; done) | (simp [*]; done), by repeat (first | exact Drawn0.refl _ | apply Drawn0.step)⟩

end Go.Proofs.Ytbnmkikifjidjaa.Q
end
section
/- Contracts of a function, printed for this claim by a program of ours over the kit's print. -/
namespace Go.Proofs.Ytbnmkikifjidjaa.Q
open Go.RowKit Go.Proofs.YtbnmkikifjidjaaW.PrintWords Go.Proofs.YtbnmkikifjidjaaW.PrintLast Go.Proofs.YtbnmkikifjidjaaW.PrintMore
attribute [local go_sem] max2_int min2_int max_two min_two max_three min_three max_four min_four   -- for this text's walks alone
set_option linter.unusedVariables false
set_option linter.unusedSimpArgs false

/-! ### impl_isCell: function 105 -/
def impl_isCell.f (a0 : Int) : Option (Bool) := (impl_within.f a0 (-100000) 100000).bind fun t101 => (some t101)
set_option maxHeartbeats 8000000 in
set_option maxRecDepth 100000 in
theorem impl_isCell.calls (a0 : Int) (r : Bool) (w : World) (h : impl_isCell.f a0 = some r) :
  Calls Try.prog 105 #[.int .i64 a0] w fun e w' => e = .returned (.bool r) ∧ Drawn0 w w' := by
 have H : ((impl_within.f a0 (-100000) 100000).bind fun t101 => (some t101)) = some r := h
 clear h
 replace H := Option.bind_eq_some_iff.mp H
 obtain ⟨t101, A20, H⟩ := H
 replace H : (some t101) = some r := H
 have A2 := Aside0.mk A20
 clear A20
 obtain rfl := Option.some.inj H
 go_enter Try.func105, Try.ntmps105
 go_wp2_with (first | ((with_reducible refine gate_callee (f := 98) rfl ?_); refine goesL_ (some 4) rfl rfl Try.func98 (by kernel_rfl) rfl #[.int .i64 a0, .int .i64 (-100000), .int .i64 100000] rfl (by (try simp only [List.map_toArray, List.map_cons, List.map_nil]); first | done | rfl | (simp only [List.length_drop, List.length_take]; rfl)) ?_; (with_reducible refine (impl_within.calls a0 (-100000) 100000 t101 _ A2.out).mono ?_); rintro e w' ⟨rfl, ⟨nd, rfl⟩⟩; refine ⟨_, rfl, ?_⟩))
 go_ret
 exact ⟨by first | rfl | (simp; done) | (simp [*]; done), by repeat (first | exact Drawn0.refl _ | apply Drawn0.step)⟩

end Go.Proofs.Ytbnmkikifjidjaa.Q
end
section
/- areAll with isCell, in the print's own form of contract. -/
namespace Go.Proofs.Ytbnmkikifjidjaa.Q
open Go.RowKit Go.Proofs.YtbnmkikifjidjaaW.PrintWords Go.Proofs.YtbnmkikifjidjaaW.PrintLast
set_option linter.unusedVariables false
set_option linter.unusedSimpArgs false

def cellB (x : Int) : Bool := decide (-100000 ≤ x ∧ x ≤ 100000)
theorem cellB_f (x : Int) : impl_isCell.f x = some (cellB x) := by
 unfold impl_isCell.f impl_within.f cellB
 by_cases h0 : -100000 ≤ x <;> by_cases h1 : x ≤ 100000 <;> simp [h0, h1]
theorem pred_cell (l : List Int) (w : World) : Pred_Int 105 #[] cellB l w := fun W x hx hb => by
 rw [Array.append_empty]
 exact (impl_isCell.calls _ _ W (cellB_f x)).mono fun e w' h => ⟨h.1, h.2.below⟩
def impl_areAll_int.f (l : List Int) : Option Bool := some (l.all cellB)
theorem impl_areAll_int.calls (A0 : Option Addr) (c0 : Nat) (l0 : List Int) (r : Bool) (w : World) (hr0 : Kd.C (Kd.int .i64) w A0 l0.length l0) (hc0 : l0.length ≤ c0) (h : impl_areAll_int.f l0 = some r) :
  Calls Try.prog 104 #[.slice A0 l0.length c0, .func (.func 105) #[] #[]] w fun e w' => e = .returned (.bool r) ∧ Below w.heap.size w w' := by
 have e105 : ∀ args w, (callFunc 105 args).run Try.prog w = .ok (.enter 105 args) w := enters_of Try.func105 (by kernel_rfl) rfl
 obtain rfl := Option.some.inj h
 exact areAll_Int 105 #[] cellB A0 c0 l0 w hr0 hc0 e105 (pred_cell l0 w)
end Go.Proofs.Ytbnmkikifjidjaa.Q
end
section
/- Contracts of a function, printed for this claim by a program of ours over the kit's print. -/
namespace Go.Proofs.Ytbnmkikifjidjaa.Q
open Go.RowKit Go.Proofs.YtbnmkikifjidjaaW.PrintWords Go.Proofs.YtbnmkikifjidjaaW.PrintLast Go.Proofs.YtbnmkikifjidjaaW.PrintMore
attribute [local go_sem] max2_int min2_int max_two min_two max_three min_three max_four min_four   -- for this text's walks alone
set_option linter.unusedVariables false
set_option linter.unusedSimpArgs false

/-! ### spec_l1Compare: function 40 -/
mutual
def spec_l1Compare.l0 : Nat → Int → List Int → List Int → Option (Int)
 | 0, _, _, _ => none
 | k + 1, x5, x102000, x103000 => if x5 < (x102000.length : Int) then (spec_l1Compare.j1 k x5 (decide (x5 < (x103000.length : Int))) x102000 x103000) else (spec_l1Compare.j1 k x5 false x102000 x103000)
def spec_l1Compare.j1 : Nat → Int → Bool → List Int → List Int → Option (Int)
 | 0, _, _, _, _ => none
 | k + 1, x5, x17, x102000, x103000 => if x17 = true then (if 0 ≤ x5 then (if x5 < (x102000.length : Int) then (if x5 < (x103000.length : Int) then (if (rd x102000 x5) < (rd x103000 x5) then (some (-1)) else (if (rd x102000 x5) > (rd x103000 x5) then (some 1) else (spec_l1Compare.l0 k (wrap64 (x5 + 1)) x102000 x103000))) else (none)) else (none)) else (none)) else (if (x102000.length : Int) < (x103000.length : Int) then (some (-1)) else (if (x102000.length : Int) > (x103000.length : Int) then (some 1) else (some 0)))
end
def spec_l1Compare.f (k : Nat) (l0_0 : List Int) (l1_0 : List Int) : Option (Int) := spec_l1Compare.l0 k 0 l0_0 l1_0
set_option maxHeartbeats 8000000 in
set_option maxRecDepth 100000 in
theorem spec_l1Compare.calls (k : Nat) (A0_0 : Option Addr) (c0_0 : Nat) (l0_0 : List Int) (A1_0 : Option Addr) (c1_0 : Nat) (l1_0 : List Int) (r : Int) (w : World) (hr0_0 : Kd.C (Kd.int .i64) w A0_0 l0_0.length l0_0) (hc0_0 : l0_0.length ≤ c0_0) (hr1_0 : Kd.C (Kd.int .i64) w A1_0 l1_0.length l1_0) (hc1_0 : l1_0.length ≤ c1_0) (h : spec_l1Compare.f k l0_0 l1_0 = some r) :
  Calls Try.prog 40 #[.agg #[.slice A0_0 l0_0.length c0_0], .agg #[.slice A1_0 l1_0.length c1_0]] w fun e w' => e = .returned (.int .i64 r) ∧ Below w.heap.size w w' := by
 have hu28 := Try.underlying28
 have HR0_0 := Aside0.mk hr0_0
 have HC0_0 := Aside0.mk hc0_0
 clear hr0_0 hc0_0
 have HR1_0 := Aside0.mk hr1_0
 have HC1_0 := Aside0.mk hc1_0
 clear hr1_0 hc1_0
 have HB := Aside0.mk (Below.refl w.heap.size w)
 have H : (spec_l1Compare.l0 k 0 l0_0 l1_0) = some r := h
 clear h
 have H' := Aside0.mk H
 clear H
 go_enter Try.func40, Try.ntmps40
 go_wp2_with (first | ((with_reducible refine gate_dst (N := 2) rfl ?_); (try (refine gate_guard (by rfl) ?_; dsimp only)); refine box_event ?hg (N := 2) ?hd (cs := #[.slice A0_0 l0_0.length c0_0]) (t := 28) ?hr ?_; (case hd => rfl); (case hg => rfl); (case hr => first | (go_simp; done) | (go_simp; rfl)); intro gb101 hg w3 hbox hb; have n0_ := Aside0.mk (below_step (by repeat (first | (with_reducible first | exact HB.out | apply below_alloc | apply pw_below_drewN | apply below_drew1) | exact HB.out)) hb); have n1_ := Aside0.mk (hbox); have n2_ := Aside0.mk ((by rw [hg]; exact (below_size (by repeat (first | (with_reducible first | exact HB.out | apply below_alloc | apply pw_below_drewN | apply below_drew1) | exact HB.out))) : w.heap.size ≤ gb101)); have n3_ := Aside0.mk ((by rw [hg]; exact (below_size (by repeat (first | (with_reducible first | exact HB.out | apply below_alloc | apply pw_below_drewN | apply below_drew1) | exact HB.out))) : w.heap.size ≤ gb101)); clear HB; have HB := n0_; have BK101 := n1_; have GW101 := n2_; have GE101 := n3_; clear n0_ n1_ n2_ n3_; clear hb hbox hg) | ((with_reducible refine gate_dst (N := 3) rfl ?_); (try (refine gate_guard (by rfl) ?_; dsimp only)); refine box_event ?hg (N := 3) ?hd (cs := #[.slice A1_0 l1_0.length c1_0]) (t := 28) ?hr ?_; (case hd => rfl); (case hg => rfl); (case hr => first | (go_simp; done) | (go_simp; rfl)); intro gb102 hg w4 hbox hb; have n0_ := Aside0.mk (blk_below (g := gb101) (o := .cells #[.slice A0_0 l0_0.length c0_0] 28 (0, 0)) (by (with_reducible repeat (first | refine blk_drewN ?_ _ | refine blk_drew ?_ | refine blk_alloc ?_ _)); exact BK101.out) hb); have n1_ := Aside0.mk (below_step (by repeat (first | (with_reducible first | exact HB.out | apply below_alloc | apply pw_below_drewN | apply below_drew1 | refine below_set ?_ GE101.out) | exact HB.out)) hb); have n2_ := Aside0.mk (hbox); have n3_ := Aside0.mk ((by rw [hg]; exact (below_size (by repeat (first | (with_reducible first | exact HB.out | apply below_alloc | apply pw_below_drewN | apply below_drew1 | refine below_set ?_ GE101.out) | exact HB.out))) : w.heap.size ≤ gb102)); have n4_ := Aside0.mk ((by rw [hg]; exact (below_size (by repeat (first | (with_reducible first | exact HB.out | apply below_alloc | apply pw_below_drewN | apply below_drew1 | refine below_set ?_ GE101.out) | exact HB.out))) : w.heap.size ≤ gb102)); have n5_ := Aside0.mk ((by rw [hg]; exact Nat.ne_of_lt (blk_lt (g := gb101) (o := .cells #[.slice A0_0 l0_0.length c0_0] 28 (0, 0)) (by (with_reducible repeat (first | refine blk_drewN ?_ _ | refine blk_drew ?_ | refine blk_alloc ?_ _)); exact BK101.out)) : gb101 ≠ gb102)); have n6_ := Aside0.mk ((by rw [hg]; exact Nat.ne_of_gt (blk_lt (g := gb101) (o := .cells #[.slice A0_0 l0_0.length c0_0] 28 (0, 0)) (by (with_reducible repeat (first | refine blk_drewN ?_ _ | refine blk_drew ?_ | refine blk_alloc ?_ _)); exact BK101.out)) : gb102 ≠ gb101)); clear BK101; clear HB; have BK101 := n0_; have HB := n1_; have BK102 := n2_; have GW102 := n3_; have GE102 := n4_; have NB101_102 := n5_; have NB102_101 := n6_; clear n0_ n1_ n2_ n3_ n4_ n5_ n6_; clear hb hbox hg))
 repeat (go_quiet (first | ((with_reducible refine gate_dst (N := 2) rfl ?_); (try (refine gate_guard (by rfl) ?_; dsimp only)); refine box_event ?hg (N := 2) ?hd (cs := #[.slice A0_0 l0_0.length c0_0]) (t := 28) ?hr ?_; (case hd => rfl); (case hg => rfl); (case hr => first | (go_simp; done) | (go_simp; rfl)); intro gb101 hg w3 hbox hb; have n0_ := Aside0.mk (below_step (by repeat (first | (with_reducible first | exact HB.out | apply below_alloc | apply pw_below_drewN | apply below_drew1) | exact HB.out)) hb); have n1_ := Aside0.mk (hbox); have n2_ := Aside0.mk ((by rw [hg]; exact (below_size (by repeat (first | (with_reducible first | exact HB.out | apply below_alloc | apply pw_below_drewN | apply below_drew1) | exact HB.out))) : w.heap.size ≤ gb101)); have n3_ := Aside0.mk ((by rw [hg]; exact (below_size (by repeat (first | (with_reducible first | exact HB.out | apply below_alloc | apply pw_below_drewN | apply below_drew1) | exact HB.out))) : w.heap.size ≤ gb101)); clear HB; have HB := n0_; have BK101 := n1_; have GW101 := n2_; have GE101 := n3_; clear n0_ n1_ n2_ n3_; clear hb hbox hg) | ((with_reducible refine gate_dst (N := 3) rfl ?_); (try (refine gate_guard (by rfl) ?_; dsimp only)); refine box_event ?hg (N := 3) ?hd (cs := #[.slice A1_0 l1_0.length c1_0]) (t := 28) ?hr ?_; (case hd => rfl); (case hg => rfl); (case hr => first | (go_simp; done) | (go_simp; rfl)); intro gb102 hg w4 hbox hb; have n0_ := Aside0.mk (blk_below (g := gb101) (o := .cells #[.slice A0_0 l0_0.length c0_0] 28 (0, 0)) (by (with_reducible repeat (first | refine blk_drewN ?_ _ | refine blk_drew ?_ | refine blk_alloc ?_ _)); exact BK101.out) hb); have n1_ := Aside0.mk (below_step (by repeat (first | (with_reducible first | exact HB.out | apply below_alloc | apply pw_below_drewN | apply below_drew1 | refine below_set ?_ GE101.out) | exact HB.out)) hb); have n2_ := Aside0.mk (hbox); have n3_ := Aside0.mk ((by rw [hg]; exact (below_size (by repeat (first | (with_reducible first | exact HB.out | apply below_alloc | apply pw_below_drewN | apply below_drew1 | refine below_set ?_ GE101.out) | exact HB.out))) : w.heap.size ≤ gb102)); have n4_ := Aside0.mk ((by rw [hg]; exact (below_size (by repeat (first | (with_reducible first | exact HB.out | apply below_alloc | apply pw_below_drewN | apply below_drew1 | refine below_set ?_ GE101.out) | exact HB.out))) : w.heap.size ≤ gb102)); have n5_ := Aside0.mk ((by rw [hg]; exact Nat.ne_of_lt (blk_lt (g := gb101) (o := .cells #[.slice A0_0 l0_0.length c0_0] 28 (0, 0)) (by (with_reducible repeat (first | refine blk_drewN ?_ _ | refine blk_drew ?_ | refine blk_alloc ?_ _)); exact BK101.out)) : gb101 ≠ gb102)); have n6_ := Aside0.mk ((by rw [hg]; exact Nat.ne_of_gt (blk_lt (g := gb101) (o := .cells #[.slice A0_0 l0_0.length c0_0] 28 (0, 0)) (by (with_reducible repeat (first | refine blk_drewN ?_ _ | refine blk_drew ?_ | refine blk_alloc ?_ _)); exact BK101.out)) : gb102 ≠ gb101)); clear BK101; clear HB; have BK101 := n0_; have HB := n1_; have BK102 := n2_; have GW102 := n3_; have GE102 := n4_; have NB101_102 := n5_; have NB102_101 := n6_; clear n0_ n1_ n2_ n3_ n4_ n5_ n6_; clear hb hbox hg)); try go_wp2_with (first | ((with_reducible refine gate_dst (N := 2) rfl ?_); (try (refine gate_guard (by rfl) ?_; dsimp only)); refine box_event ?hg (N := 2) ?hd (cs := #[.slice A0_0 l0_0.length c0_0]) (t := 28) ?hr ?_; (case hd => rfl); (case hg => rfl); (case hr => first | (go_simp; done) | (go_simp; rfl)); intro gb101 hg w3 hbox hb; have n0_ := Aside0.mk (below_step (by repeat (first | (with_reducible first | exact HB.out | apply below_alloc | apply pw_below_drewN | apply below_drew1) | exact HB.out)) hb); have n1_ := Aside0.mk (hbox); have n2_ := Aside0.mk ((by rw [hg]; exact (below_size (by repeat (first | (with_reducible first | exact HB.out | apply below_alloc | apply pw_below_drewN | apply below_drew1) | exact HB.out))) : w.heap.size ≤ gb101)); have n3_ := Aside0.mk ((by rw [hg]; exact (below_size (by repeat (first | (with_reducible first | exact HB.out | apply below_alloc | apply pw_below_drewN | apply below_drew1) | exact HB.out))) : w.heap.size ≤ gb101)); clear HB; have HB := n0_; have BK101 := n1_; have GW101 := n2_; have GE101 := n3_; clear n0_ n1_ n2_ n3_; clear hb hbox hg) | ((with_reducible refine gate_dst (N := 3) rfl ?_); (try (refine gate_guard (by rfl) ?_; dsimp only)); refine box_event ?hg (N := 3) ?hd (cs := #[.slice A1_0 l1_0.length c1_0]) (t := 28) ?hr ?_; (case hd => rfl); (case hg => rfl); (case hr => first | (go_simp; done) | (go_simp; rfl)); intro gb102 hg w4 hbox hb; have n0_ := Aside0.mk (blk_below (g := gb101) (o := .cells #[.slice A0_0 l0_0.length c0_0] 28 (0, 0)) (by (with_reducible repeat (first | refine blk_drewN ?_ _ | refine blk_drew ?_ | refine blk_alloc ?_ _)); exact BK101.out) hb); have n1_ := Aside0.mk (below_step (by repeat (first | (with_reducible first | exact HB.out | apply below_alloc | apply pw_below_drewN | apply below_drew1 | refine below_set ?_ GE101.out) | exact HB.out)) hb); have n2_ := Aside0.mk (hbox); have n3_ := Aside0.mk ((by rw [hg]; exact (below_size (by repeat (first | (with_reducible first | exact HB.out | apply below_alloc | apply pw_below_drewN | apply below_drew1 | refine below_set ?_ GE101.out) | exact HB.out))) : w.heap.size ≤ gb102)); have n4_ := Aside0.mk ((by rw [hg]; exact (below_size (by repeat (first | (with_reducible first | exact HB.out | apply below_alloc | apply pw_below_drewN | apply below_drew1 | refine below_set ?_ GE101.out) | exact HB.out))) : w.heap.size ≤ gb102)); have n5_ := Aside0.mk ((by rw [hg]; exact Nat.ne_of_lt (blk_lt (g := gb101) (o := .cells #[.slice A0_0 l0_0.length c0_0] 28 (0, 0)) (by (with_reducible repeat (first | refine blk_drewN ?_ _ | refine blk_drew ?_ | refine blk_alloc ?_ _)); exact BK101.out)) : gb101 ≠ gb102)); have n6_ := Aside0.mk ((by rw [hg]; exact Nat.ne_of_gt (blk_lt (g := gb101) (o := .cells #[.slice A0_0 l0_0.length c0_0] 28 (0, 0)) (by (with_reducible repeat (first | refine blk_drewN ?_ _ | refine blk_drew ?_ | refine blk_alloc ?_ _)); exact BK101.out)) : gb102 ≠ gb101)); clear BK101; clear HB; have BK101 := n0_; have HB := n1_; have BK102 := n2_; have GW102 := n3_; have GE102 := n4_; have NB101_102 := n5_; have NB102_101 := n6_; clear n0_ n1_ n2_ n3_ n4_ n5_ n6_; clear hb hbox hg)))
 go_loopg [5] k (fun kq v5 w' => ∃ (x5_1 : Int), v5 = .int .i64 x5_1 ∧ Aside0 (spec_l1Compare.l0 kq x5_1 l0_0 l1_0 = some r) ∧ Aside0 (kq ≤ k) ∧ Aside0 (w'.heap[gb101]? = some (.cells #[(.slice A0_0 l0_0.length c0_0)] 28 (0, 0))) ∧ Aside0 (w'.heap[gb102]? = some (.cells #[(.slice A1_0 l1_0.length c1_0)] 28 (0, 0))) ∧ Aside0 (Below w.heap.size w w'))
 case atStart => exact ⟨(0), (by first | rfl | (simp; done) | (simp [*]; done)), H', ⟨Nat.le_refl _⟩, ⟨by (with_reducible repeat (first | refine blk_drewN ?_ _ | refine blk_drew ?_ | refine blk_alloc ?_ _)); exact BK101.out⟩, ⟨by (with_reducible repeat (first | refine blk_drewN ?_ _ | refine blk_drew ?_ | refine blk_alloc ?_ _)); exact BK102.out⟩, ⟨by repeat (first | (with_reducible first | exact HB.out | apply below_alloc | apply pw_below_drewN | apply below_drew1 | refine below_set ?_ GE101.out | refine below_set ?_ GE102.out) | exact HB.out)⟩⟩
 case round =>
  clear H'
  try clear c1
  try clear p2
  try clear c4
  obtain ⟨x5_1, rfl, HA, HK1, BK101, BK102, HB⟩ := hrel
  cases gk with
  | zero => exact absurd HA.out (by simp [spec_l1Compare.l0])
  | succ k1 =>
   have H := HA.out
   clear HA
   simp only [spec_l1Compare.l0] at H
   have HC5 := Aside0.mk H
   clear H
   go_upto_region 2 with (fail)
   repeat (go_quiet (fail); go_upto_region 2 with (fail))
   go_cut [17] (fun v17 wc => ∃ (kq : Nat) (x17_4 : Bool), v17 = .bool x17_4 ∧ Aside0 (spec_l1Compare.j1 kq x5_1 x17_4 l0_0 l1_0 = some r) ∧ Aside0 (kq ≤ k1) ∧ Aside0 (wc.heap[gb101]? = some (.cells #[(.slice A0_0 l0_0.length c0_0)] 28 (0, 0))) ∧ Aside0 (wc.heap[gb102]? = some (.cells #[(.slice A1_0 l1_0.length c1_0)] 28 (0, 0))) ∧ Aside0 (Below w.heap.size w wc))
   case first =>
    have H := HC5.out
    clear HC5
    by_cases c6 : x5_1 < (l0_0.length : Int)
    ·rw [if_pos c6] at H
     have c6b0 : decide (x5_1 < (l0_0.length : Int)) = true := decide_eq_true c6
     clear c6
     (first | rw [c6b0] | (simp only [i64_w, i32_w]; rw [c6b0]) | skip)
     have H' := Aside0.mk H
     clear H
     have hnb7 := NB101_102.out
     have hnc7 := NB102_101.out
     have hcz8_0 : wr.cell? ⟨gb101, 0, none⟩ = some (.slice A0_0 l0_0.length c0_0) := (blk_cell BK101.out 0).trans rfl
     have hfz8_0 := blk_frozen BK101.out 0
     have hcz9_0 : wr.cell? ⟨gb102, 0, none⟩ = some (.slice A1_0 l1_0.length c1_0) := (blk_cell BK102.out 0).trans rfl
     have hfz9_0 := blk_frozen BK102.out 0
     go_wp2
     repeat (go_quiet (fail); try go_wp2)
     go_meet
     case rel => exact ⟨_, (decide (x5_1 < (l1_0.length : Int))), (by first | rfl | (simp; done) | (simp [*]; done)), H', ⟨by have := HK1.out; first | omega | exact Nat.le_refl _⟩, ⟨by (with_reducible repeat (first | refine blk_drewN ?_ _ | refine blk_drew ?_ | refine blk_alloc ?_ _)); exact BK101.out⟩, ⟨by (with_reducible repeat (first | refine blk_drewN ?_ _ | refine blk_drew ?_ | refine blk_alloc ?_ _)); exact BK102.out⟩, ⟨by repeat (first | (with_reducible first | exact HB.out | apply below_alloc | apply pw_below_drewN | apply below_drew1 | refine below_set ?_ GE101.out | refine below_set ?_ GE102.out) | exact HB.out)⟩⟩
    ·rw [if_neg c6] at H
     have c6b0 : decide (x5_1 < (l0_0.length : Int)) = false := decide_eq_false c6
     clear c6
     (first | rw [c6b0] | (simp only [i64_w, i32_w]; rw [c6b0]) | skip)
     have H' := Aside0.mk H
     clear H
     have hnb10 := NB101_102.out
     have hnc10 := NB102_101.out
     have hcz11_0 : wr.cell? ⟨gb101, 0, none⟩ = some (.slice A0_0 l0_0.length c0_0) := (blk_cell BK101.out 0).trans rfl
     have hfz11_0 := blk_frozen BK101.out 0
     go_wp2
     repeat (go_quiet (fail); try go_wp2)
     go_meet
     case rel => exact ⟨_, (false), (by first | rfl | (simp; done) | (simp [*]; done)), H', ⟨by have := HK1.out; first | omega | exact Nat.le_refl _⟩, ⟨by (with_reducible repeat (first | refine blk_drewN ?_ _ | refine blk_drew ?_ | refine blk_alloc ?_ _)); exact BK101.out⟩, ⟨by (with_reducible repeat (first | refine blk_drewN ?_ _ | refine blk_drew ?_ | refine blk_alloc ?_ _)); exact BK102.out⟩, ⟨by repeat (first | (with_reducible first | exact HB.out | apply below_alloc | apply pw_below_drewN | apply below_drew1 | refine below_set ?_ GE101.out | refine below_set ?_ GE102.out) | exact HB.out)⟩⟩
   case rest =>
    clear HC5
    try clear c1
    try clear p2
    try clear c4
    try clear c6
    try clear c6b0
    try clear c7
    try clear c10
    try clear hcz11_0
    try clear hcz8_0
    try clear hcz9_0
    try clear hfz11_0
    try clear hfz8_0
    try clear hfz9_0
    try clear p2
    obtain ⟨kq, x17_4, rfl, HA, HJ4, BK101, BK102, HB⟩ := hcut
    cases kq with
    | zero => exact absurd HA.out (by simp [spec_l1Compare.j1])
    | succ kj4 =>
     have H := HA.out
     clear HA
     simp only [spec_l1Compare.j1] at H
     by_cases c12 : x17_4 = true
     ·subst c12
      have H1 : (if 0 ≤ x5_1 then (if x5_1 < (l0_0.length : Int) then (if x5_1 < (l1_0.length : Int) then (if (rd l0_0 x5_1) < (rd l1_0 x5_1) then (some (-1)) else (if (rd l0_0 x5_1) > (rd l1_0 x5_1) then (some 1) else (spec_l1Compare.l0 kj4 (wrap64 (x5_1 + 1)) l0_0 l1_0))) else (none)) else (none)) else (none)) = some r := by rw [if_pos rfl] at H; exact H
      clear H
      have H := H1
      clear H1
      by_cases c13 : 0 ≤ x5_1
      ·rw [if_pos c13] at H
       have c13b0 : decide (0 ≤ x5_1) = true := decide_eq_true c13
       clear c13
       by_cases c14 : x5_1 < (l0_0.length : Int)
       ·rw [if_pos c14] at H
        have c14b0 : decide (x5_1 < (l0_0.length : Int)) = true := decide_eq_true c14
        clear c14
        by_cases c15 : x5_1 < (l1_0.length : Int)
        ·rw [if_pos c15] at H
         have c15b0 : decide (x5_1 < (l1_0.length : Int)) = true := decide_eq_true c15
         clear c15
         by_cases c16 : (rd l0_0 x5_1) < (rd l1_0 x5_1)
         ·rw [if_pos c16] at H
          have c16b0 : decide ((rd l0_0 x5_1) < (rd l1_0 x5_1)) = true := decide_eq_true c16
          clear c16
          obtain rfl := Option.some.inj H
          have hnb17 := NB101_102.out
          have hnc17 := NB102_101.out
          have hcz18_0 : wc.cell? ⟨gb101, 0, none⟩ = some (.slice A0_0 l0_0.length c0_0) := (blk_cell BK101.out 0).trans rfl
          have hfz18_0 := blk_frozen BK101.out 0
          have p103 : 0 ≤ (x5_1 : Int) := of_decide_eq_true (by first | (with_reducible assumption) | assumption)
          have q103 : x5_1 < (l0_0.length : Int) := of_decide_eq_true (by first | (with_reducible assumption) | assumption)
          obtain ⟨ad103, e103, hx103_0⟩ := Kd.at_int HR0_0.out x5_1 p103 q103
          cases e103
          replace hx103_0 := (HB.out.cell (World.block_lt_of_cell? w _ hx103_0)).trans hx103_0
          replace p103 := eq_true p103
          replace q103 := eq_true q103
          have hcz19_0 : wc.cell? ⟨gb102, 0, none⟩ = some (.slice A1_0 l1_0.length c1_0) := (blk_cell BK102.out 0).trans rfl
          have hfz19_0 := blk_frozen BK102.out 0
          have p104 : 0 ≤ (x5_1 : Int) := of_decide_eq_true (by first | (with_reducible assumption) | assumption)
          have q104 : x5_1 < (l1_0.length : Int) := of_decide_eq_true (by first | (with_reducible assumption) | assumption)
          obtain ⟨ad104, e104, hx104_0⟩ := Kd.at_int HR1_0.out x5_1 p104 q104
          cases e104
          replace hx104_0 := (HB.out.cell (World.block_lt_of_cell? w _ hx104_0)).trans hx104_0
          replace p104 := eq_true p104
          replace q104 := eq_true q104
          go_wp2
          repeat (go_quiet (fail); try go_wp2)
          go_ret
          exact ⟨by first | rfl | (simp [errW_none, errW_some] <;> rfl) | (simp [*, errW_none, errW_some] <;> rfl), by repeat (first | (with_reducible first | exact HB.out | apply below_alloc | apply pw_below_drewN | apply below_drew1 | refine below_set ?_ GE101.out | refine below_set ?_ GE102.out) | exact HB.out)⟩
         ·rw [if_neg c16] at H
          have c16b0 : decide ((rd l0_0 x5_1) < (rd l1_0 x5_1)) = false := decide_eq_false c16
          clear c16
          by_cases c20 : (rd l0_0 x5_1) > (rd l1_0 x5_1)
          ·rw [if_pos c20] at H
           have c20b0 : decide ((rd l1_0 x5_1) < (rd l0_0 x5_1)) = true := decide_eq_true c20
           clear c20
           obtain rfl := Option.some.inj H
           have hnb21 := NB101_102.out
           have hnc21 := NB102_101.out
           have hcz22_0 : wc.cell? ⟨gb101, 0, none⟩ = some (.slice A0_0 l0_0.length c0_0) := (blk_cell BK101.out 0).trans rfl
           have hfz22_0 := blk_frozen BK101.out 0
           have p103 : 0 ≤ (x5_1 : Int) := of_decide_eq_true (by first | (with_reducible assumption) | assumption)
           have q103 : x5_1 < (l0_0.length : Int) := of_decide_eq_true (by first | (with_reducible assumption) | assumption)
           obtain ⟨ad103, e103, hx103_0⟩ := Kd.at_int HR0_0.out x5_1 p103 q103
           cases e103
           replace hx103_0 := (HB.out.cell (World.block_lt_of_cell? w _ hx103_0)).trans hx103_0
           replace p103 := eq_true p103
           replace q103 := eq_true q103
           have hcz23_0 : wc.cell? ⟨gb102, 0, none⟩ = some (.slice A1_0 l1_0.length c1_0) := (blk_cell BK102.out 0).trans rfl
           have hfz23_0 := blk_frozen BK102.out 0
           have p104 : 0 ≤ (x5_1 : Int) := of_decide_eq_true (by first | (with_reducible assumption) | assumption)
           have q104 : x5_1 < (l1_0.length : Int) := of_decide_eq_true (by first | (with_reducible assumption) | assumption)
           obtain ⟨ad104, e104, hx104_0⟩ := Kd.at_int HR1_0.out x5_1 p104 q104
           cases e104
           replace hx104_0 := (HB.out.cell (World.block_lt_of_cell? w _ hx104_0)).trans hx104_0
           replace p104 := eq_true p104
           replace q104 := eq_true q104
           have p105 : 0 ≤ (x5_1 : Int) := of_decide_eq_true (by first | (with_reducible assumption) | assumption)
           have q105 : x5_1 < (l0_0.length : Int) := of_decide_eq_true (by first | (with_reducible assumption) | assumption)
           obtain ⟨ad105, e105, hx105_0⟩ := Kd.at_int HR0_0.out x5_1 p105 q105
           obtain rfl : ad103 = ad105 := (by injection e105)
           replace hx105_0 := (HB.out.cell (World.block_lt_of_cell? w _ hx105_0)).trans hx105_0
           replace p105 := eq_true p105
           replace q105 := eq_true q105
           have p106 : 0 ≤ (x5_1 : Int) := of_decide_eq_true (by first | (with_reducible assumption) | assumption)
           have q106 : x5_1 < (l1_0.length : Int) := of_decide_eq_true (by first | (with_reducible assumption) | assumption)
           obtain ⟨ad106, e106, hx106_0⟩ := Kd.at_int HR1_0.out x5_1 p106 q106
           obtain rfl : ad104 = ad106 := (by injection e106)
           replace hx106_0 := (HB.out.cell (World.block_lt_of_cell? w _ hx106_0)).trans hx106_0
           replace p106 := eq_true p106
           replace q106 := eq_true q106
           go_wp2
           repeat (go_quiet (fail); try go_wp2)
           go_ret
           exact ⟨by first | rfl | (simp [errW_none, errW_some] <;> rfl) | (simp [*, errW_none, errW_some] <;> rfl), by repeat (first | (with_reducible first | exact HB.out | apply below_alloc | apply pw_below_drewN | apply below_drew1 | refine below_set ?_ GE101.out | refine below_set ?_ GE102.out) | exact HB.out)⟩
          ·rw [if_neg c20] at H
           have c20b0 : decide ((rd l1_0 x5_1) < (rd l0_0 x5_1)) = false := decide_eq_false c20
           clear c20
           have H' := Aside0.mk H
           clear H
           have hnb24 := NB101_102.out
           have hnc24 := NB102_101.out
           have hcz25_0 : wc.cell? ⟨gb101, 0, none⟩ = some (.slice A0_0 l0_0.length c0_0) := (blk_cell BK101.out 0).trans rfl
           have hfz25_0 := blk_frozen BK101.out 0
           have p103 : 0 ≤ (x5_1 : Int) := of_decide_eq_true (by first | (with_reducible assumption) | assumption)
           have q103 : x5_1 < (l0_0.length : Int) := of_decide_eq_true (by first | (with_reducible assumption) | assumption)
           obtain ⟨ad103, e103, hx103_0⟩ := Kd.at_int HR0_0.out x5_1 p103 q103
           cases e103
           replace hx103_0 := (HB.out.cell (World.block_lt_of_cell? w _ hx103_0)).trans hx103_0
           replace p103 := eq_true p103
           replace q103 := eq_true q103
           have hcz26_0 : wc.cell? ⟨gb102, 0, none⟩ = some (.slice A1_0 l1_0.length c1_0) := (blk_cell BK102.out 0).trans rfl
           have hfz26_0 := blk_frozen BK102.out 0
           have p104 : 0 ≤ (x5_1 : Int) := of_decide_eq_true (by first | (with_reducible assumption) | assumption)
           have q104 : x5_1 < (l1_0.length : Int) := of_decide_eq_true (by first | (with_reducible assumption) | assumption)
           obtain ⟨ad104, e104, hx104_0⟩ := Kd.at_int HR1_0.out x5_1 p104 q104
           cases e104
           replace hx104_0 := (HB.out.cell (World.block_lt_of_cell? w _ hx104_0)).trans hx104_0
           replace p104 := eq_true p104
           replace q104 := eq_true q104
           have p105 : 0 ≤ (x5_1 : Int) := of_decide_eq_true (by first | (with_reducible assumption) | assumption)
           have q105 : x5_1 < (l0_0.length : Int) := of_decide_eq_true (by first | (with_reducible assumption) | assumption)
           obtain ⟨ad105, e105, hx105_0⟩ := Kd.at_int HR0_0.out x5_1 p105 q105
           obtain rfl : ad103 = ad105 := (by injection e105)
           replace hx105_0 := (HB.out.cell (World.block_lt_of_cell? w _ hx105_0)).trans hx105_0
           replace p105 := eq_true p105
           replace q105 := eq_true q105
           have p106 : 0 ≤ (x5_1 : Int) := of_decide_eq_true (by first | (with_reducible assumption) | assumption)
           have q106 : x5_1 < (l1_0.length : Int) := of_decide_eq_true (by first | (with_reducible assumption) | assumption)
           obtain ⟨ad106, e106, hx106_0⟩ := Kd.at_int HR1_0.out x5_1 p106 q106
           obtain rfl : ad104 = ad106 := (by injection e106)
           replace hx106_0 := (HB.out.cell (World.block_lt_of_cell? w _ hx106_0)).trans hx106_0
           replace p106 := eq_true p106
           replace q106 := eq_true q106
           go_wp2
           repeat (go_quiet (fail); try go_wp2)
           go_roundg kj4
           case measure => have := HK1.out; have := HJ4.out; omega
           case rel => exact ⟨(wrap64 (x5_1 + 1)), (by first | rfl | (simp; done) | (simp [*]; done)), H', ⟨by have := HK1.out; have := HJ4.out; omega⟩, ⟨by (with_reducible repeat (first | refine blk_drewN ?_ _ | refine blk_drew ?_ | refine blk_alloc ?_ _)); exact BK101.out⟩, ⟨by (with_reducible repeat (first | refine blk_drewN ?_ _ | refine blk_drew ?_ | refine blk_alloc ?_ _)); exact BK102.out⟩, ⟨by repeat (first | (with_reducible first | exact HB.out | apply below_alloc | apply pw_below_drewN | apply below_drew1 | refine below_set ?_ GE101.out | refine below_set ?_ GE102.out) | exact HB.out)⟩⟩
        ·rw [if_neg c15] at H
         exact absurd H (by simp)
       ·rw [if_neg c14] at H
        exact absurd H (by simp)
      ·rw [if_neg c13] at H
       exact absurd H (by simp)
     ·replace c12 := Bool.eq_false_iff.mpr c12
      subst c12
      have H1 : (if (l0_0.length : Int) < (l1_0.length : Int) then (some (-1)) else (if (l0_0.length : Int) > (l1_0.length : Int) then (some 1) else (some 0))) = some r := by rw [if_neg (show ¬ (false = true) by decide)] at H; exact H
      clear H
      have H := H1
      clear H1
      by_cases c27 : (l0_0.length : Int) < (l1_0.length : Int)
      ·rw [if_pos c27] at H
       have c27b0 : decide ((l0_0.length : Int) < (l1_0.length : Int)) = true := decide_eq_true c27
       have c27b1 : decide (l0_0.length < l1_0.length) = true := decide_eq_true (Int.ofNat_lt.mp c27)
       clear c27
       obtain rfl := Option.some.inj H
       have hnb28 := NB101_102.out
       have hnc28 := NB102_101.out
       have hcz29_0 : wc.cell? ⟨gb101, 0, none⟩ = some (.slice A0_0 l0_0.length c0_0) := (blk_cell BK101.out 0).trans rfl
       have hfz29_0 := blk_frozen BK101.out 0
       have hcz30_0 : wc.cell? ⟨gb102, 0, none⟩ = some (.slice A1_0 l1_0.length c1_0) := (blk_cell BK102.out 0).trans rfl
       have hfz30_0 := blk_frozen BK102.out 0
       go_wp2
       repeat (go_quiet (fail); try go_wp2)
       go_ret
       exact ⟨by first | rfl | (simp [errW_none, errW_some] <;> rfl) | (simp [*, errW_none, errW_some] <;> rfl), by repeat (first | (with_reducible first | exact HB.out | apply below_alloc | apply pw_below_drewN | apply below_drew1 | refine below_set ?_ GE101.out | refine below_set ?_ GE102.out) | exact HB.out)⟩
      ·rw [if_neg c27] at H
       have c27b0 : decide ((l0_0.length : Int) < (l1_0.length : Int)) = false := decide_eq_false c27
       have c27b1 : decide (l0_0.length < l1_0.length) = false := decide_eq_false (fun h => c27 (Int.ofNat_lt.mpr h))
       clear c27
       by_cases c31 : (l0_0.length : Int) > (l1_0.length : Int)
       ·rw [if_pos c31] at H
        have c31b0 : decide ((l1_0.length : Int) < (l0_0.length : Int)) = true := decide_eq_true c31
        have c31b1 : decide (l1_0.length < l0_0.length) = true := decide_eq_true (Int.ofNat_lt.mp c31)
        clear c31
        obtain rfl := Option.some.inj H
        have hnb32 := NB101_102.out
        have hnc32 := NB102_101.out
        have hcz33_0 : wc.cell? ⟨gb101, 0, none⟩ = some (.slice A0_0 l0_0.length c0_0) := (blk_cell BK101.out 0).trans rfl
        have hfz33_0 := blk_frozen BK101.out 0
        have hcz34_0 : wc.cell? ⟨gb102, 0, none⟩ = some (.slice A1_0 l1_0.length c1_0) := (blk_cell BK102.out 0).trans rfl
        have hfz34_0 := blk_frozen BK102.out 0
        go_wp2
        repeat (go_quiet (fail); try go_wp2)
        go_ret
        exact ⟨by first | rfl | (simp [errW_none, errW_some] <;> rfl) | (simp [*, errW_none, errW_some] <;> rfl), by repeat (first | (with_reducible first | exact HB.out | apply below_alloc | apply pw_below_drewN | apply below_drew1 | refine below_set ?_ GE101.out | refine below_set ?_ GE102.out) | exact HB.out)⟩
       ·rw [if_neg c31] at H
        have c31b0 : decide ((l1_0.length : Int) < (l0_0.length : Int)) = false := decide_eq_false c31
        have c31b1 : decide (l1_0.length < l0_0.length) = false := decide_eq_false (fun h => c31 (Int.ofNat_lt.mpr h))
        clear c31
        obtain rfl := Option.some.inj H
        have hnb35 := NB101_102.out
        have hnc35 := NB102_101.out
        have hcz36_0 : wc.cell? ⟨gb101, 0, none⟩ = some (.slice A0_0 l0_0.length c0_0) := (blk_cell BK101.out 0).trans rfl
        have hfz36_0 := blk_frozen BK101.out 0
        have hcz37_0 : wc.cell? ⟨gb102, 0, none⟩ = some (.slice A1_0 l1_0.length c1_0) := (blk_cell BK102.out 0).trans rfl
        have hfz37_0 := blk_frozen BK102.out 0
        go_wp2
        repeat (go_quiet (fail); try go_wp2)
        go_ret
        exact ⟨by first | rfl | (simp [errW_none, errW_some] <;> rfl) | (simp [*, errW_none, errW_some] <;> rfl), by repeat (first | (with_reducible first | exact HB.out | apply below_alloc | apply pw_below_drewN | apply below_drew1 | refine below_set ?_ GE101.out | refine below_set ?_ GE102.out) | exact HB.out)⟩

end Go.Proofs.Ytbnmkikifjidjaa.Q
end
section
/- Contracts of a function, printed for this claim by a program of ours over the kit's print. -/
namespace Go.Proofs.Ytbnmkikifjidjaa.Q
open Go.RowKit Go.Proofs.YtbnmkikifjidjaaW.PrintWords Go.Proofs.YtbnmkikifjidjaaW.PrintLast Go.Proofs.YtbnmkikifjidjaaW.PrintMore
attribute [local go_sem] max2_int min2_int max_two min_two max_three min_three max_four min_four   -- for this text's walks alone
set_option linter.unusedVariables false
set_option linter.unusedSimpArgs false

/-! ### cmp_isNaN_int: function 103 -/
def cmp_isNaN_int.f (a0 : Int) : Option (Bool) := some (a0 != a0)
set_option maxHeartbeats 8000000 in
set_option maxRecDepth 100000 in
theorem cmp_isNaN_int.calls (a0 : Int) (r : Bool) (w : World) (h : cmp_isNaN_int.f a0 = some r) :
  Calls Try.prog 103 #[.int .i64 a0] w fun e w' => e = .returned (.bool r) ∧ Drawn0 w w' := by
 have H : (some (a0 != a0)) = some r := h
 clear h
 obtain rfl := Option.some.inj H
 go_enter Try.func103, Try.ntmps103
 go_wp2
 go_ret
 exact ⟨by first | rfl | (simp; done) | (simp [*]; done), by repeat (first | exact Drawn0.refl _ | apply Drawn0.step)⟩

end Go.Proofs.Ytbnmkikifjidjaa.Q
end
section
/- Contracts of a function, printed for this claim by a program of ours over the kit's print. -/
namespace Go.Proofs.Ytbnmkikifjidjaa.Q
open Go.RowKit Go.Proofs.YtbnmkikifjidjaaW.PrintWords Go.Proofs.YtbnmkikifjidjaaW.PrintLast Go.Proofs.YtbnmkikifjidjaaW.PrintMore
attribute [local go_sem] max2_int min2_int max_two min_two max_three min_three max_four min_four   -- for this text's walks alone
set_option linter.unusedVariables false
set_option linter.unusedSimpArgs false

/-! ### cmp_Compare_int: function 96 -/
def cmp_Compare_int.f (a0 : Int) (a1 : Int) : Option (Int) := (cmp_isNaN_int.f a0).bind fun t101 => ((cmp_isNaN_int.f a1).bind fun t102 => (if t101 = true then (if t102 = true then (some 0) else (some (-1))) else (if t102 = true then (some 1) else (if a0 < a1 then (some (-1)) else (if a0 > a1 then (some 1) else (some 0))))))
set_option maxHeartbeats 8000000 in
set_option maxRecDepth 100000 in
theorem cmp_Compare_int.calls (a0 : Int) (a1 : Int) (r : Int) (w : World) (h : cmp_Compare_int.f a0 a1 = some r) :
  Calls Try.prog 96 #[.int .i64 a0, .int .i64 a1] w fun e w' => e = .returned (.int .i64 r) ∧ Drawn0 w w' := by
 have H : ((cmp_isNaN_int.f a0).bind fun t101 => ((cmp_isNaN_int.f a1).bind fun t102 => (if t101 = true then (if t102 = true then (some 0) else (some (-1))) else (if t102 = true then (some 1) else (if a0 < a1 then (some (-1)) else (if a0 > a1 then (some 1) else (some 0))))))) = some r := h
 clear h
 replace H := Option.bind_eq_some_iff.mp H
 obtain ⟨t101, A30, H⟩ := H
 replace H : ((cmp_isNaN_int.f a1).bind fun t102 => (if t101 = true then (if t102 = true then (some 0) else (some (-1))) else (if t102 = true then (some 1) else (if a0 < a1 then (some (-1)) else (if a0 > a1 then (some 1) else (some 0)))))) = some r := H
 have A3 := Aside0.mk A30
 clear A30
 replace H := Option.bind_eq_some_iff.mp H
 obtain ⟨t102, A40, H⟩ := H
 replace H : (if t101 = true then (if t102 = true then (some 0) else (some (-1))) else (if t102 = true then (some 1) else (if a0 < a1 then (some (-1)) else (if a0 > a1 then (some 1) else (some 0))))) = some r := H
 have A4 := Aside0.mk A40
 clear A40
 by_cases c5 : t101 = true
 ·subst c5
  have H1 : (if t102 = true then (some 0) else (some (-1))) = some r := by rw [if_pos rfl] at H; exact H
  clear H
  have H := H1
  clear H1
  by_cases c6 : t102 = true
  ·subst c6
   have H1 : (some 0) = some r := by rw [if_pos rfl] at H; exact H
   clear H
   have H := H1
   clear H1
   obtain rfl := Option.some.inj H
   go_enter Try.func96, Try.ntmps96
   go_wp2_with (first | ((with_reducible refine gate_callee (f := 103) rfl ?_); refine goesL_ (some 8) rfl rfl Try.func103 (by kernel_rfl) rfl #[.int .i64 a0] rfl (by (try simp only [List.map_toArray, List.map_cons, List.map_nil]); first | done | rfl | (simp only [List.length_drop, List.length_take]; rfl)) ?_; (with_reducible refine (cmp_isNaN_int.calls a0 true _ A3.out).mono ?_); rintro e w' ⟨rfl, ⟨nd, rfl⟩⟩; refine ⟨_, rfl, ?_⟩) | ((with_reducible refine gate_callee (f := 103) rfl ?_); refine goesL_ (some 10) rfl rfl Try.func103 (by kernel_rfl) rfl #[.int .i64 a1] rfl (by (try simp only [List.map_toArray, List.map_cons, List.map_nil]); first | done | rfl | (simp only [List.length_drop, List.length_take]; rfl)) ?_; (with_reducible refine (cmp_isNaN_int.calls a1 true _ A4.out).mono ?_); rintro e w' ⟨rfl, ⟨nd, rfl⟩⟩; refine ⟨_, rfl, ?_⟩))
   go_ret
   exact ⟨by first | rfl | (simp; done) | (simp [*]; done), by repeat (first | exact Drawn0.refl _ | apply Drawn0.step)⟩
  ·replace c6 := Bool.eq_false_iff.mpr c6
   subst c6
   have H1 : (some (-1)) = some r := by rw [if_neg (show ¬ (false = true) by decide)] at H; exact H
   clear H
   have H := H1
   clear H1
   obtain rfl := Option.some.inj H
   go_enter Try.func96, Try.ntmps96
   go_wp2_with (first | ((with_reducible refine gate_callee (f := 103) rfl ?_); refine goesL_ (some 8) rfl rfl Try.func103 (by kernel_rfl) rfl #[.int .i64 a0] rfl (by (try simp only [List.map_toArray, List.map_cons, List.map_nil]); first | done | rfl | (simp only [List.length_drop, List.length_take]; rfl)) ?_; (with_reducible refine (cmp_isNaN_int.calls a0 true _ A3.out).mono ?_); rintro e w' ⟨rfl, ⟨nd, rfl⟩⟩; refine ⟨_, rfl, ?_⟩) | ((with_reducible refine gate_callee (f := 103) rfl ?_); refine goesL_ (some 10) rfl rfl Try.func103 (by kernel_rfl) rfl #[.int .i64 a1] rfl (by (try simp only [List.map_toArray, List.map_cons, List.map_nil]); first | done | rfl | (simp only [List.length_drop, List.length_take]; rfl)) ?_; (with_reducible refine (cmp_isNaN_int.calls a1 false _ A4.out).mono ?_); rintro e w' ⟨rfl, ⟨nd, rfl⟩⟩; refine ⟨_, rfl, ?_⟩))
   go_ret
   exact ⟨by first | rfl | (simp; done) | (simp [*]; done), by repeat (first | exact Drawn0.refl _ | apply Drawn0.step)⟩
 ·replace c5 := Bool.eq_false_iff.mpr c5
  subst c5
  have H1 : (if t102 = true then (some 1) else (if a0 < a1 then (some (-1)) else (if a0 > a1 then (some 1) else (some 0)))) = some r := by rw [if_neg (show ¬ (false = true) by decide)] at H; exact H
  clear H
  have H := H1
  clear H1
  by_cases c7 : t102 = true
  ·subst c7
   have H1 : (some 1) = some r := by rw [if_pos rfl] at H; exact H
   clear H
   have H := H1
   clear H1
   obtain rfl := Option.some.inj H
   go_enter Try.func96, Try.ntmps96
   go_wp2_with (first | ((with_reducible refine gate_callee (f := 103) rfl ?_); refine goesL_ (some 8) rfl rfl Try.func103 (by kernel_rfl) rfl #[.int .i64 a0] rfl (by (try simp only [List.map_toArray, List.map_cons, List.map_nil]); first | done | rfl | (simp only [List.length_drop, List.length_take]; rfl)) ?_; (with_reducible refine (cmp_isNaN_int.calls a0 false _ A3.out).mono ?_); rintro e w' ⟨rfl, ⟨nd, rfl⟩⟩; refine ⟨_, rfl, ?_⟩) | ((with_reducible refine gate_callee (f := 103) rfl ?_); refine goesL_ (some 10) rfl rfl Try.func103 (by kernel_rfl) rfl #[.int .i64 a1] rfl (by (try simp only [List.map_toArray, List.map_cons, List.map_nil]); first | done | rfl | (simp only [List.length_drop, List.length_take]; rfl)) ?_; (with_reducible refine (cmp_isNaN_int.calls a1 true _ A4.out).mono ?_); rintro e w' ⟨rfl, ⟨nd, rfl⟩⟩; refine ⟨_, rfl, ?_⟩))
   go_ret
   exact ⟨by first | rfl | (simp; done) | (simp [*]; done), by repeat (first | exact Drawn0.refl _ | apply Drawn0.step)⟩
  ·replace c7 := Bool.eq_false_iff.mpr c7
   subst c7
   have H1 : (if a0 < a1 then (some (-1)) else (if a0 > a1 then (some 1) else (some 0))) = some r := by rw [if_neg (show ¬ (false = true) by decide)] at H; exact H
   clear H
   have H := H1
   clear H1
   by_cases c8 : a0 < a1
   ·rw [if_pos c8] at H
    have c8b0 : decide (a0 < a1) = true := decide_eq_true c8
    clear c8
    obtain rfl := Option.some.inj H
    go_enter Try.func96, Try.ntmps96
    go_wp2_with (first | ((with_reducible refine gate_callee (f := 103) rfl ?_); refine goesL_ (some 8) rfl rfl Try.func103 (by kernel_rfl) rfl #[.int .i64 a0] rfl (by (try simp only [List.map_toArray, List.map_cons, List.map_nil]); first | done | rfl | (simp only [List.length_drop, List.length_take]; rfl)) ?_; (with_reducible refine (cmp_isNaN_int.calls a0 false _ A3.out).mono ?_); rintro e w' ⟨rfl, ⟨nd, rfl⟩⟩; refine ⟨_, rfl, ?_⟩) | ((with_reducible refine gate_callee (f := 103) rfl ?_); refine goesL_ (some 10) rfl rfl Try.func103 (by kernel_rfl) rfl #[.int .i64 a1] rfl (by (try simp only [List.map_toArray, List.map_cons, List.map_nil]); first | done | rfl | (simp only [List.length_drop, List.length_take]; rfl)) ?_; (with_reducible refine (cmp_isNaN_int.calls a1 false _ A4.out).mono ?_); rintro e w' ⟨rfl, ⟨nd, rfl⟩⟩; refine ⟨_, rfl, ?_⟩))
    go_ret
    exact ⟨by first | rfl | (simp; done) | (simp [*]; done), by repeat (first | exact Drawn0.refl _ | apply Drawn0.step)⟩
   ·rw [if_neg c8] at H
    have c8b0 : decide (a0 < a1) = false := decide_eq_false c8
    clear c8
    by_cases c9 : a0 > a1
    ·rw [if_pos c9] at H
     have c9b0 : decide (a1 < a0) = true := decide_eq_true c9
     clear c9
     obtain rfl := Option.some.inj H
     go_enter Try.func96, Try.ntmps96
     go_wp2_with (first | ((with_reducible refine gate_callee (f := 103) rfl ?_); refine goesL_ (some 8) rfl rfl Try.func103 (by kernel_rfl) rfl #[.int .i64 a0] rfl (by (try simp only [List.map_toArray, List.map_cons, List.map_nil]); first | done | rfl | (simp only [List.length_drop, List.length_take]; rfl)) ?_; (with_reducible refine (cmp_isNaN_int.calls a0 false _ A3.out).mono ?_); rintro e w' ⟨rfl, ⟨nd, rfl⟩⟩; refine ⟨_, rfl, ?_⟩) | ((with_reducible refine gate_callee (f := 103) rfl ?_); refine goesL_ (some 10) rfl rfl Try.func103 (by kernel_rfl) rfl #[.int .i64 a1] rfl (by (try simp only [List.map_toArray, List.map_cons, List.map_nil]); first | done | rfl | (simp only [List.length_drop, List.length_take]; rfl)) ?_; (with_reducible refine (cmp_isNaN_int.calls a1 false _ A4.out).mono ?_); rintro e w' ⟨rfl, ⟨nd, rfl⟩⟩; refine ⟨_, rfl, ?_⟩))
     go_ret
     exact ⟨by first | rfl | (simp; done) | (simp [*]; done), by repeat (first | exact Drawn0.refl _ | apply Drawn0.step)⟩
    ·rw [if_neg c9] at H
     have c9b0 : decide (a1 < a0) = false := decide_eq_false c9
     clear c9
     obtain rfl := Option.some.inj H
     go_enter Try.func96, Try.ntmps96
     go_wp2_with (first | ((with_reducible refine gate_callee (f := 103) rfl ?_); refine goesL_ (some 8) rfl rfl Try.func103 (by kernel_rfl) rfl #[.int .i64 a0] rfl (by (try simp only [List.map_toArray, List.map_cons, List.map_nil]); first | done | rfl | (simp only [List.length_drop, List.length_take]; rfl)) ?_; (with_reducible refine (cmp_isNaN_int.calls a0 false _ A3.out).mono ?_); rintro e w' ⟨rfl, ⟨nd, rfl⟩⟩; refine ⟨_, rfl, ?_⟩) | ((with_reducible refine gate_callee (f := 103) rfl ?_); refine goesL_ (some 10) rfl rfl Try.func103 (by kernel_rfl) rfl #[.int .i64 a1] rfl (by (try simp only [List.map_toArray, List.map_cons, List.map_nil]); first | done | rfl | (simp only [List.length_drop, List.length_take]; rfl)) ?_; (with_reducible refine (cmp_isNaN_int.calls a1 false _ A4.out).mono ?_); rintro e w' ⟨rfl, ⟨nd, rfl⟩⟩; refine ⟨_, rfl, ?_⟩))
     go_ret
     exact ⟨by first | rfl | (simp; done) | (simp [*]; done), by repeat (first | exact Drawn0.refl _ | apply Drawn0.step)⟩

end Go.Proofs.Ytbnmkikifjidjaa.Q
end
section
/- Contracts of a function, printed for this claim by a program of ours over the kit's print. -/
namespace Go.Proofs.Ytbnmkikifjidjaa.Q
open Go.RowKit Go.Proofs.YtbnmkikifjidjaaW.PrintWords Go.Proofs.YtbnmkikifjidjaaW.PrintLast Go.Proofs.YtbnmkikifjidjaaW.PrintMore
attribute [local go_sem] max2_int min2_int max_two min_two max_three min_three max_four min_four   -- for this text's walks alone
set_option linter.unusedVariables false
set_option linter.unusedSimpArgs false

/-! ### slices_Compare_int_int: function 75 -/
def slices_Compare_int_int.l0 : Nat → List Int → List Int → List Int → Int → Int → Option (Int)
 | 0, _, _, _, _, _ => none
 | k + 1, x0, x1, x9, x10, x11 => if x11 < x10 then (if 0 ≤ x11 then (if x11 < (x9.length : Int) then (if x11 ≥ (x1.length : Int) then (some 1) else (if x11 < (x1.length : Int) then ((cmp_Compare_int.f (rd x9 x11) (rd x1 x11)).bind fun t103 => (if t103 = 0 then (slices_Compare_int_int.l0 k x0 x1 x9 x10 (wrap64 (x11 + 1))) else (some t103))) else (none))) else (none)) else (none)) else (if (x0.length : Int) < (x1.length : Int) then (some (-1)) else (some 0))
def slices_Compare_int_int.f (k : Nat) (l0 : List Int) (l1 : List Int) : Option (Int) := slices_Compare_int_int.l0 k l0 l1 l0 (l0.length : Int) 0
set_option maxHeartbeats 8000000 in
set_option maxRecDepth 100000 in
theorem slices_Compare_int_int.calls (k : Nat) (A0 : Option Addr) (c0 : Nat) (l0 : List Int) (A1 : Option Addr) (c1 : Nat) (l1 : List Int) (r : Int) (w : World) (hr0 : Kd.C (Kd.int .i64) w A0 l0.length l0) (hc0 : l0.length ≤ c0) (hr1 : Kd.C (Kd.int .i64) w A1 l1.length l1) (hc1 : l1.length ≤ c1) (h : slices_Compare_int_int.f k l0 l1 = some r) :
  Calls Try.prog 75 #[.slice A0 l0.length c0, .slice A1 l1.length c1] w fun e w' => e = .returned (.int .i64 r) ∧ Drawn0 w w' := by
 have HR0 := Aside0.mk hr0
 have HC0 := Aside0.mk hc0
 clear hr0 hc0
 have HR1 := Aside0.mk hr1
 have HC1 := Aside0.mk hc1
 clear hr1 hc1
 have H : (slices_Compare_int_int.l0 k l0 l1 l0 (l0.length : Int) 0) = some r := h
 clear h
 have H' := Aside0.mk H
 clear H
 go_enter Try.func75, Try.ntmps75
 go_wp2
 go_loopg [11] k (fun kq v11 w' => ∃ (x11_1 : Int), v11 = .int .i64 x11_1 ∧ Aside0 (slices_Compare_int_int.l0 kq l0 l1 l0 (l0.length : Int) x11_1 = some r) ∧ Aside0 (kq ≤ k) ∧ Drawn0 w w')
 case atStart => exact ⟨(0), (by first | rfl | (simp; done) | (simp [*]; done)), H', ⟨Nat.le_refl _⟩, by repeat (first | exact Drawn0.refl _ | apply Drawn0.step)⟩
 case round =>
  clear H'
  try clear c1
  try clear p2
  obtain ⟨x11_1, rfl, HA, HK1, ⟨m1, rfl⟩⟩ := hrel
  cases gk with
  | zero => exact absurd HA.out (by simp [slices_Compare_int_int.l0])
  | succ k1 =>
   have H := HA.out
   clear HA
   simp only [slices_Compare_int_int.l0] at H
   by_cases c3 : x11_1 < (l0.length : Int)
   ·rw [if_pos c3] at H
    have c3b0 : decide (x11_1 < (l0.length : Int)) = true := decide_eq_true c3
    clear c3
    by_cases c4 : 0 ≤ x11_1
    ·rw [if_pos c4] at H
     have c4b0 : decide (0 ≤ x11_1) = true := decide_eq_true c4
     clear c4
     by_cases c5 : x11_1 < (l0.length : Int)
     ·rw [if_pos c5] at H
      have c5b0 : decide (x11_1 < (l0.length : Int)) = true := decide_eq_true c5
      clear c5
      by_cases c6 : x11_1 ≥ (l1.length : Int)
      ·rw [if_pos c6] at H
       have c6b0 : decide ((l1.length : Int) ≤ x11_1) = true := decide_eq_true c6
       clear c6
       obtain rfl := Option.some.inj H
       have p101 : 0 ≤ (x11_1 : Int) := of_decide_eq_true (by first | (with_reducible assumption) | assumption)
       have q101 : x11_1 < (l0.length : Int) := of_decide_eq_true (by first | (with_reducible assumption) | assumption)
       obtain ⟨ad101, e101, hx101_0⟩ := Kd.at_int HR0.out x11_1 p101 q101
       cases e101
       replace p101 := eq_true p101
       replace q101 := eq_true q101
       go_wp2
       go_ret
       exact ⟨by first | rfl | (simp; done) | (simp [*]; done), by repeat (first | exact Drawn0.refl _ | apply Drawn0.step)⟩
      ·rw [if_neg c6] at H
       have c6b0 : decide ((l1.length : Int) ≤ x11_1) = false := decide_eq_false c6
       clear c6
       by_cases c7 : x11_1 < (l1.length : Int)
       ·rw [if_pos c7] at H
        have c7b0 : decide (x11_1 < (l1.length : Int)) = true := decide_eq_true c7
        clear c7
        replace H := Option.bind_eq_some_iff.mp H
        obtain ⟨t103, A80, H⟩ := H
        replace H : (if t103 = 0 then (slices_Compare_int_int.l0 k1 l0 l1 l0 (l0.length : Int) (wrap64 (x11_1 + 1))) else (some t103)) = some r := H
        have A8 := Aside0.mk A80
        clear A80
        by_cases c9 : t103 = 0
        ·rw [if_pos c9] at H
         have c9b0 : (t103 == 0) = true := beq_iff_eq.mpr c9
         have c9b1 : (t103 != 0) = false := bne_eq_false_iff_eq.mpr c9
         clear c9
         have H' := Aside0.mk H
         clear H
         have p101 : 0 ≤ (x11_1 : Int) := of_decide_eq_true (by first | (with_reducible assumption) | assumption)
         have q101 : x11_1 < (l0.length : Int) := of_decide_eq_true (by first | (with_reducible assumption) | assumption)
         obtain ⟨ad101, e101, hx101_0⟩ := Kd.at_int HR0.out x11_1 p101 q101
         cases e101
         replace p101 := eq_true p101
         replace q101 := eq_true q101
         have p102 : 0 ≤ (x11_1 : Int) := of_decide_eq_true (by first | (with_reducible assumption) | assumption)
         have q102 : x11_1 < (l1.length : Int) := of_decide_eq_true (by first | (with_reducible assumption) | assumption)
         obtain ⟨ad102, e102, hx102_0⟩ := Kd.at_int HR1.out x11_1 p102 q102
         cases e102
         replace p102 := eq_true p102
         replace q102 := eq_true q102
         go_wp2_with (first | ((with_reducible refine gate_callee (f := 96) rfl ?_); refine goesL_ (some 26) rfl rfl Try.func96 (by kernel_rfl) rfl #[.int .i64 (rd l0 x11_1), .int .i64 (rd l1 x11_1)] rfl (by (try simp only [List.map_toArray, List.map_cons, List.map_nil]); first | done | rfl | (simp only [List.length_drop, List.length_take]; rfl)) ?_; (with_reducible refine (cmp_Compare_int.calls (rd l0 x11_1) (rd l1 x11_1) t103 _ A8.out).mono ?_); rintro e w' ⟨rfl, ⟨nd, rfl⟩⟩; refine ⟨_, rfl, ?_⟩))
         go_roundg k1
         case measure => have := HK1.out; omega
         case rel => exact ⟨(wrap64 (x11_1 + 1)), (by first | rfl | (simp; done) | (simp [*]; done)), H', ⟨by have := HK1.out; omega⟩, by repeat (first | exact Drawn0.refl _ | apply Drawn0.step)⟩
        ·rw [if_neg c9] at H
         have c9b0 : (t103 == 0) = false := beq_eq_false_iff_ne.mpr c9
         have c9b1 : (t103 != 0) = true := bne_iff_ne.mpr c9
         obtain rfl := Option.some.inj H
         have p101 : 0 ≤ (x11_1 : Int) := of_decide_eq_true (by first | (with_reducible assumption) | assumption)
         have q101 : x11_1 < (l0.length : Int) := of_decide_eq_true (by first | (with_reducible assumption) | assumption)
         obtain ⟨ad101, e101, hx101_0⟩ := Kd.at_int HR0.out x11_1 p101 q101
         cases e101
         replace p101 := eq_true p101
         replace q101 := eq_true q101
         have p102 : 0 ≤ (x11_1 : Int) := of_decide_eq_true (by first | (with_reducible assumption) | assumption)
         have q102 : x11_1 < (l1.length : Int) := of_decide_eq_true (by first | (with_reducible assumption) | assumption)
         obtain ⟨ad102, e102, hx102_0⟩ := Kd.at_int HR1.out x11_1 p102 q102
         cases e102
         replace p102 := eq_true p102
         replace q102 := eq_true q102
         go_wp2_with (first | ((with_reducible refine gate_callee (f := 96) rfl ?_); refine goesL_ (some 26) rfl rfl Try.func96 (by kernel_rfl) rfl #[.int .i64 (rd l0 x11_1), .int .i64 (rd l1 x11_1)] rfl (by (try simp only [List.map_toArray, List.map_cons, List.map_nil]); first | done | rfl | (simp only [List.length_drop, List.length_take]; rfl)) ?_; (with_reducible refine (cmp_Compare_int.calls (rd l0 x11_1) (rd l1 x11_1) t103 _ A8.out).mono ?_); rintro e w' ⟨rfl, ⟨nd, rfl⟩⟩; refine ⟨_, rfl, ?_⟩))
         go_ret
         exact ⟨by first | rfl | (simp; done) | (simp [*]; done), by repeat (first | exact Drawn0.refl _ | apply Drawn0.step)⟩
       ·rw [if_neg c7] at H
        exact absurd H (by simp)
     ·rw [if_neg c5] at H
      exact absurd H (by simp)
    ·rw [if_neg c4] at H
     exact absurd H (by simp)
   ·rw [if_neg c3] at H
    have c3b0 : decide (x11_1 < (l0.length : Int)) = false := decide_eq_false c3
    clear c3
    by_cases c10 : (l0.length : Int) < (l1.length : Int)
    ·rw [if_pos c10] at H
     have c10b0 : decide ((l0.length : Int) < (l1.length : Int)) = true := decide_eq_true c10
     have c10b1 : decide (l0.length < l1.length) = true := decide_eq_true (Int.ofNat_lt.mp c10)
     clear c10
     obtain rfl := Option.some.inj H
     go_wp2
     go_ret
     exact ⟨by first | rfl | (simp; done) | (simp [*]; done), by repeat (first | exact Drawn0.refl _ | apply Drawn0.step)⟩
    ·rw [if_neg c10] at H
     have c10b0 : decide ((l0.length : Int) < (l1.length : Int)) = false := decide_eq_false c10
     have c10b1 : decide (l0.length < l1.length) = false := decide_eq_false (fun h => c10 (Int.ofNat_lt.mpr h))
     clear c10
     obtain rfl := Option.some.inj H
     go_wp2
     go_ret
     exact ⟨by first | rfl | (simp; done) | (simp [*]; done), by repeat (first | exact Drawn0.refl _ | apply Drawn0.step)⟩

end Go.Proofs.Ytbnmkikifjidjaa.Q
end
section
/- Contracts of a function, printed for this claim by a program of ours over the kit's print. -/
namespace Go.Proofs.Ytbnmkikifjidjaa.Q
open Go.RowKit Go.Proofs.YtbnmkikifjidjaaW.PrintWords Go.Proofs.YtbnmkikifjidjaaW.PrintLast Go.Proofs.YtbnmkikifjidjaaW.PrintMore
attribute [local go_sem] max2_int min2_int max_two min_two max_three min_three max_four min_four   -- for this text's walks alone
set_option linter.unusedVariables false
set_option linter.unusedSimpArgs false

/-! ### impl_compareRows: function 46 -/
def impl_compareRows.f (k : Nat) (l0_0 : List Int) (l1_0 : List Int) : Option (Int) := (slices_Compare_int_int.f k l0_0 l1_0).bind fun t103 => (some t103)
set_option maxHeartbeats 8000000 in
set_option maxRecDepth 100000 in
theorem impl_compareRows.calls (k : Nat) (A0_0 : Option Addr) (c0_0 : Nat) (l0_0 : List Int) (A1_0 : Option Addr) (c1_0 : Nat) (l1_0 : List Int) (r : Int) (w : World) (hr0_0 : Kd.C (Kd.int .i64) w A0_0 l0_0.length l0_0) (hc0_0 : l0_0.length ≤ c0_0) (hr1_0 : Kd.C (Kd.int .i64) w A1_0 l1_0.length l1_0) (hc1_0 : l1_0.length ≤ c1_0) (h : impl_compareRows.f k l0_0 l1_0 = some r) :
  Calls Try.prog 46 #[.agg #[.slice A0_0 l0_0.length c0_0], .agg #[.slice A1_0 l1_0.length c1_0]] w fun e w' => e = .returned (.int .i64 r) ∧ Below w.heap.size w w' := by
 have hu28 := Try.underlying28
 have HR0_0 := Aside0.mk hr0_0
 have HC0_0 := Aside0.mk hc0_0
 clear hr0_0 hc0_0
 have HR1_0 := Aside0.mk hr1_0
 have HC1_0 := Aside0.mk hc1_0
 clear hr1_0 hc1_0
 have HB := Aside0.mk (Below.refl w.heap.size w)
 have H : ((slices_Compare_int_int.f k l0_0 l1_0).bind fun t103 => (some t103)) = some r := h
 clear h
 replace H := Option.bind_eq_some_iff.mp H
 obtain ⟨t103, A30, H⟩ := H
 replace H : (some t103) = some r := H
 have A3 := Aside0.mk A30
 clear A30
 obtain rfl := Option.some.inj H
 go_enter Try.func46, Try.ntmps46
 go_wp2_with (first | ((with_reducible refine gate_dst (N := 2) rfl ?_); refine box_event ?hg (N := 2) ?hd (cs := #[.slice A0_0 l0_0.length c0_0]) (t := 28) ?hr ?_; (case hd => rfl); (case hg => rfl); (case hr => first | (go_simp; done) | (go_simp; rfl)); intro gb101 hg w4 hbox hb; have n0_ := Aside0.mk (below_step (by repeat (first | (with_reducible first | exact HB.out | apply below_alloc | apply pw_below_drewN | apply below_drew1) | exact HB.out)) hb); have n1_ := Aside0.mk (hbox); have n2_ := Aside0.mk ((by rw [hg]; exact (below_size (by repeat (first | (with_reducible first | exact HB.out | apply below_alloc | apply pw_below_drewN | apply below_drew1) | exact HB.out))) : w.heap.size ≤ gb101)); have n3_ := Aside0.mk ((by rw [hg]; exact (below_size (by repeat (first | (with_reducible first | exact HB.out | apply below_alloc | apply pw_below_drewN | apply below_drew1) | exact HB.out))) : w.heap.size ≤ gb101)); clear HB; have HB := n0_; have BK101 := n1_; have GW101 := n2_; have GE101 := n3_; clear n0_ n1_ n2_ n3_; clear hb hbox hg) | ((with_reducible refine gate_dst (N := 3) rfl ?_); refine box_event ?hg (N := 3) ?hd (cs := #[.slice A1_0 l1_0.length c1_0]) (t := 28) ?hr ?_; (case hd => rfl); (case hg => rfl); (case hr => first | (go_simp; done) | (go_simp; rfl)); intro gb102 hg w5 hbox hb; have n0_ := Aside0.mk (blk_below (g := gb101) (o := .cells #[.slice A0_0 l0_0.length c0_0] 28 (0, 0)) (by (with_reducible repeat (first | refine blk_drewN ?_ _ | refine blk_drew ?_ | refine blk_alloc ?_ _)); exact BK101.out) hb); have n1_ := Aside0.mk (below_step (by repeat (first | (with_reducible first | exact HB.out | apply below_alloc | apply pw_below_drewN | apply below_drew1 | refine below_set ?_ GE101.out) | exact HB.out)) hb); have n2_ := Aside0.mk (hbox); have n3_ := Aside0.mk ((by rw [hg]; exact (below_size (by repeat (first | (with_reducible first | exact HB.out | apply below_alloc | apply pw_below_drewN | apply below_drew1 | refine below_set ?_ GE101.out) | exact HB.out))) : w.heap.size ≤ gb102)); have n4_ := Aside0.mk ((by rw [hg]; exact (below_size (by repeat (first | (with_reducible first | exact HB.out | apply below_alloc | apply pw_below_drewN | apply below_drew1 | refine below_set ?_ GE101.out) | exact HB.out))) : w.heap.size ≤ gb102)); have n5_ := Aside0.mk ((by rw [hg]; exact Nat.ne_of_lt (blk_lt (g := gb101) (o := .cells #[.slice A0_0 l0_0.length c0_0] 28 (0, 0)) (by (with_reducible repeat (first | refine blk_drewN ?_ _ | refine blk_drew ?_ | refine blk_alloc ?_ _)); exact BK101.out)) : gb101 ≠ gb102)); have n6_ := Aside0.mk ((by rw [hg]; exact Nat.ne_of_gt (blk_lt (g := gb101) (o := .cells #[.slice A0_0 l0_0.length c0_0] 28 (0, 0)) (by (with_reducible repeat (first | refine blk_drewN ?_ _ | refine blk_drew ?_ | refine blk_alloc ?_ _)); exact BK101.out)) : gb102 ≠ gb101)); clear BK101; clear HB; have BK101 := n0_; have HB := n1_; have BK102 := n2_; have GW102 := n3_; have GE102 := n4_; have NB101_102 := n5_; have NB102_101 := n6_; clear n0_ n1_ n2_ n3_ n4_ n5_ n6_; clear hb hbox hg; have hnb6 := NB101_102.out; have hnc6 := NB102_101.out; have hcz7_0 : w5.cell? ⟨gb101, 0, none⟩ = some (.slice A0_0 l0_0.length c0_0) := (blk_cell BK101.out 0).trans rfl; have hfz7_0 := blk_frozen BK101.out 0; have hcz8_0 : w5.cell? ⟨gb102, 0, none⟩ = some (.slice A1_0 l1_0.length c1_0) := (blk_cell BK102.out 0).trans rfl; have hfz8_0 := blk_frozen BK102.out 0) | ((with_reducible refine gate_callee (f := 75) rfl ?_); refine goesL_ (some 9) rfl rfl Try.func75 (by kernel_rfl) rfl #[.slice A0_0 l0_0.length c0_0, .slice A1_0 l1_0.length c1_0] rfl (by (try simp only [List.map_toArray, List.map_cons, List.map_nil]); first | done | rfl | (simp only [List.length_drop, List.length_take]; rfl)) ?_; (with_reducible refine (slices_Compare_int_int.calls k _ _ l0_0 _ _ l1_0 t103 _ ?side1 ?side2 ?side3 ?side4 A3.out).mono ?_); (case side1 => repeat (first | exact (Kd.C_below HR0_0.out HB.out) | (with_reducible refine Kd.C_alloc ?_ _) | (with_reducible refine Kd.C_drewN ?_ _) | (with_reducible refine Kd.C_drew ?_))); (case side2 => exact HC0_0.out); (case side3 => repeat (first | exact (Kd.C_below HR1_0.out HB.out) | (with_reducible refine Kd.C_alloc ?_ _) | (with_reducible refine Kd.C_drewN ?_ _) | (with_reducible refine Kd.C_drew ?_))); (case side4 => exact HC1_0.out); rintro e w' ⟨rfl, ⟨nd, rfl⟩⟩; refine ⟨_, rfl, ?_⟩))
 go_ret
 exact ⟨by first | rfl | (simp [errW_none, errW_some] <;> rfl) | (simp [*, errW_none, errW_some] <;> rfl), by repeat (first | (with_reducible first | exact HB.out | apply below_alloc | apply pw_below_drewN | apply below_drew1 | refine below_set ?_ GE101.out | refine below_set ?_ GE102.out) | exact HB.out)⟩

end Go.Proofs.Ytbnmkikifjidjaa.Q
end
section
/- Contracts of a function, printed for this claim by a program of ours over the kit's print. -/
namespace Go.Proofs.Ytbnmkikifjidjaa.Q
open Go.RowKit Go.Proofs.YtbnmkikifjidjaaW.PrintWords Go.Proofs.YtbnmkikifjidjaaW.PrintLast Go.Proofs.YtbnmkikifjidjaaW.PrintMore
attribute [local go_sem] max2_int min2_int max_two min_two max_three min_three max_four min_four   -- for this text's walks alone
set_option linter.unusedVariables false
set_option linter.unusedSimpArgs false

/-! ### spec_l1In: function 83 -/
def spec_l1In.f (a0 : Int) (a1 : Int) (a2 : Int) : Option (Bool) := if a0 ≥ a1 then (some (decide (a0 ≤ a2))) else (some false)
set_option maxHeartbeats 8000000 in
set_option maxRecDepth 100000 in
theorem spec_l1In.calls (a0 : Int) (a1 : Int) (a2 : Int) (r : Bool) (w : World) (h : spec_l1In.f a0 a1 a2 = some r) :
  Calls Try.prog 83 #[.int .i64 a0, .int .i64 a1, .int .i64 a2] w fun e w' => e = .returned (.bool r) ∧ Drawn0 w w' := by
 have H : (if a0 ≥ a1 then (some (decide (a0 ≤ a2))) else (some false)) = some r := h
 clear h
 by_cases c4 : a0 ≥ a1
 ·rw [if_pos c4] at H
  have c4b0 : decide (a1 ≤ a0) = true := decide_eq_true c4
  clear c4
  obtain rfl := Option.some.inj H
  go_enter Try.func83, Try.ntmps83
  go_wp2
  go_ret
  exact ⟨by first | rfl | (simp; done) | (simp [*]; done), by repeat (first | exact Drawn0.refl _ | apply Drawn0.step)⟩
 ·rw [if_neg c4] at H
  have c4b0 : decide (a1 ≤ a0) = false := decide_eq_false c4
  clear c4
  obtain rfl := Option.some.inj H
  go_enter Try.func83, Try.ntmps83
  go_wp2
  go_ret
  exact ⟨by first | rfl | (simp; done) | (simp [*]; done), by repeat (first | exact Drawn0.refl _ | apply Drawn0.step)⟩

end Go.Proofs.Ytbnmkikifjidjaa.Q
end
section
/- Contracts of a function, printed for this claim by a program of ours over the kit's print. -/
namespace Go.Proofs.Ytbnmkikifjidjaa.Q
open Go.RowKit Go.Proofs.YtbnmkikifjidjaaW.PrintWords Go.Proofs.YtbnmkikifjidjaaW.PrintLast Go.Proofs.YtbnmkikifjidjaaW.PrintMore
attribute [local go_sem] max2_int min2_int max_two min_two max_three min_three max_four min_four   -- for this text's walks alone
set_option linter.unusedVariables false
set_option linter.unusedSimpArgs false

/-! ### spec_GoodRow: function 73 -/
def spec_GoodRow.l0 : Nat → List Int → Int → Int → List Int → Option (Bool)
 | 0, _, _, _, _ => none
 | k + 1, x6, x7, x8, x102000 => if x8 < x7 then (if 0 ≤ x8 then (if x8 < (x6.length : Int) then ((spec_l1In.f (rd x6 x8) (-100000) 100000).bind fun t103 => (if t103 = true then (spec_GoodRow.l0 k x6 x7 (wrap64 (x8 + 1)) x102000) else (some false))) else (none)) else (none)) else (some (decide ((x102000.length : Int) ≤ 6)))
def spec_GoodRow.f (k : Nat) (l0_0 : List Int) : Option (Bool) := spec_GoodRow.l0 k l0_0 (l0_0.length : Int) 0 l0_0
set_option maxHeartbeats 8000000 in
set_option maxRecDepth 100000 in
theorem spec_GoodRow.calls (k : Nat) (A0_0 : Option Addr) (c0_0 : Nat) (l0_0 : List Int) (r : Bool) (w : World) (hr0_0 : Kd.C (Kd.int .i64) w A0_0 l0_0.length l0_0) (hc0_0 : l0_0.length ≤ c0_0) (h : spec_GoodRow.f k l0_0 = some r) :
  Calls Try.prog 73 #[.agg #[.slice A0_0 l0_0.length c0_0]] w fun e w' => e = .returned (.bool r) ∧ Below w.heap.size w w' := by
 have hu28 := Try.underlying28
 have HR0_0 := Aside0.mk hr0_0
 have HC0_0 := Aside0.mk hc0_0
 clear hr0_0 hc0_0
 have HB := Aside0.mk (Below.refl w.heap.size w)
 have H : (spec_GoodRow.l0 k l0_0 (l0_0.length : Int) 0 l0_0) = some r := h
 clear h
 have H' := Aside0.mk H
 clear H
 go_enter Try.func73, Try.ntmps73
 go_wp2_with (first | ((with_reducible refine gate_dst (N := 1) rfl ?_); refine box_event ?hg (N := 1) ?hd (cs := #[.slice A0_0 l0_0.length c0_0]) (t := 28) ?hr ?_; (case hd => rfl); (case hg => rfl); (case hr => first | (go_simp; done) | (go_simp; rfl)); intro gb101 hg w2 hbox hb; have n0_ := Aside0.mk (below_step (by repeat (first | (with_reducible first | exact HB.out | apply below_alloc | apply pw_below_drewN | apply below_drew1) | exact HB.out)) hb); have n1_ := Aside0.mk (hbox); have n2_ := Aside0.mk ((by rw [hg]; exact (below_size (by repeat (first | (with_reducible first | exact HB.out | apply below_alloc | apply pw_below_drewN | apply below_drew1) | exact HB.out))) : w.heap.size ≤ gb101)); have n3_ := Aside0.mk ((by rw [hg]; exact (below_size (by repeat (first | (with_reducible first | exact HB.out | apply below_alloc | apply pw_below_drewN | apply below_drew1) | exact HB.out))) : w.heap.size ≤ gb101)); clear HB; have HB := n0_; have BK101 := n1_; have GW101 := n2_; have GE101 := n3_; clear n0_ n1_ n2_ n3_; clear hb hbox hg; have hcz3_0 : w2.cell? ⟨gb101, 0, none⟩ = some (.slice A0_0 l0_0.length c0_0) := (blk_cell BK101.out 0).trans rfl; have hfz3_0 := blk_frozen BK101.out 0))
 go_loopg [8] k (fun kq v8 w' => ∃ (x8_1 : Int), v8 = .int .i64 x8_1 ∧ Aside0 (spec_GoodRow.l0 kq l0_0 (l0_0.length : Int) x8_1 l0_0 = some r) ∧ Aside0 (kq ≤ k) ∧ Aside0 (w'.heap[gb101]? = some (.cells #[(.slice A0_0 l0_0.length c0_0)] 28 (0, 0))) ∧ Aside0 (Below w.heap.size w w'))
 case atStart => exact ⟨(0), (by first | rfl | (simp; done) | (simp [*]; done)), H', ⟨Nat.le_refl _⟩, ⟨by (with_reducible repeat (first | refine blk_drewN ?_ _ | refine blk_drew ?_ | refine blk_alloc ?_ _)); exact BK101.out⟩, ⟨by repeat (first | (with_reducible first | exact HB.out | apply below_alloc | apply pw_below_drewN | apply below_drew1 | refine below_set ?_ GE101.out) | exact HB.out)⟩⟩
 case round =>
  clear H'
  try clear p2
  try clear hcz3_0
  try clear hfz3_0
  obtain ⟨x8_1, rfl, HA, HK1, BK101, HB⟩ := hrel
  cases gk with
  | zero => exact absurd HA.out (by simp [spec_GoodRow.l0])
  | succ k1 =>
   have H := HA.out
   clear HA
   simp only [spec_GoodRow.l0] at H
   by_cases c4 : x8_1 < (l0_0.length : Int)
   ·rw [if_pos c4] at H
    have c4b0 : decide (x8_1 < (l0_0.length : Int)) = true := decide_eq_true c4
    clear c4
    by_cases c5 : 0 ≤ x8_1
    ·rw [if_pos c5] at H
     have c5b0 : decide (0 ≤ x8_1) = true := decide_eq_true c5
     clear c5
     by_cases c6 : x8_1 < (l0_0.length : Int)
     ·rw [if_pos c6] at H
      have c6b0 : decide (x8_1 < (l0_0.length : Int)) = true := decide_eq_true c6
      clear c6
      replace H := Option.bind_eq_some_iff.mp H
      obtain ⟨t103, A70, H⟩ := H
      replace H : (if t103 = true then (spec_GoodRow.l0 k1 l0_0 (l0_0.length : Int) (wrap64 (x8_1 + 1)) l0_0) else (some false)) = some r := H
      have A7 := Aside0.mk A70
      clear A70
      by_cases c8 : t103 = true
      ·subst c8
       have H1 : (spec_GoodRow.l0 k1 l0_0 (l0_0.length : Int) (wrap64 (x8_1 + 1)) l0_0) = some r := by rw [if_pos rfl] at H; exact H
       clear H
       have H := H1
       clear H1
       have H' := Aside0.mk H
       clear H
       have p102 : 0 ≤ (x8_1 : Int) := of_decide_eq_true (by first | (with_reducible assumption) | assumption)
       have q102 : x8_1 < (l0_0.length : Int) := of_decide_eq_true (by first | (with_reducible assumption) | assumption)
       obtain ⟨ad102, e102, hx102_0⟩ := Kd.at_int HR0_0.out x8_1 p102 q102
       cases e102
       replace hx102_0 := (HB.out.cell (World.block_lt_of_cell? w _ hx102_0)).trans hx102_0
       replace p102 := eq_true p102
       replace q102 := eq_true q102
       go_wp2_with (first | ((with_reducible refine gate_callee (f := 83) rfl ?_); refine goesL_ (some 13) rfl rfl Try.func83 (by kernel_rfl) rfl #[.int .i64 (rd l0_0 x8_1), .int .i64 (-100000), .int .i64 100000] rfl (by (try simp only [List.map_toArray, List.map_cons, List.map_nil]); first | done | rfl | (simp only [List.length_drop, List.length_take]; rfl)) ?_; (with_reducible refine (spec_l1In.calls (rd l0_0 x8_1) (-100000) 100000 true _ A7.out).mono ?_); rintro e w' ⟨rfl, ⟨nd, rfl⟩⟩; refine ⟨_, rfl, ?_⟩))
       go_roundg k1
       case measure => have := HK1.out; omega
       case rel => exact ⟨(wrap64 (x8_1 + 1)), (by first | rfl | (simp; done) | (simp [*]; done)), H', ⟨by have := HK1.out; omega⟩, ⟨by (with_reducible repeat (first | refine blk_drewN ?_ _ | refine blk_drew ?_ | refine blk_alloc ?_ _)); exact BK101.out⟩, ⟨by repeat (first | (with_reducible first | exact HB.out | apply below_alloc | apply pw_below_drewN | apply below_drew1 | refine below_set ?_ GE101.out) | exact HB.out)⟩⟩
      ·replace c8 := Bool.eq_false_iff.mpr c8
       subst c8
       have H1 : (some false) = some r := by rw [if_neg (show ¬ (false = true) by decide)] at H; exact H
       clear H
       have H := H1
       clear H1
       obtain rfl := Option.some.inj H
       have p102 : 0 ≤ (x8_1 : Int) := of_decide_eq_true (by first | (with_reducible assumption) | assumption)
       have q102 : x8_1 < (l0_0.length : Int) := of_decide_eq_true (by first | (with_reducible assumption) | assumption)
       obtain ⟨ad102, e102, hx102_0⟩ := Kd.at_int HR0_0.out x8_1 p102 q102
       cases e102
       replace hx102_0 := (HB.out.cell (World.block_lt_of_cell? w _ hx102_0)).trans hx102_0
       replace p102 := eq_true p102
       replace q102 := eq_true q102
       go_wp2_with (first | ((with_reducible refine gate_callee (f := 83) rfl ?_); refine goesL_ (some 13) rfl rfl Try.func83 (by kernel_rfl) rfl #[.int .i64 (rd l0_0 x8_1), .int .i64 (-100000), .int .i64 100000] rfl (by (try simp only [List.map_toArray, List.map_cons, List.map_nil]); first | done | rfl | (simp only [List.length_drop, List.length_take]; rfl)) ?_; (with_reducible refine (spec_l1In.calls (rd l0_0 x8_1) (-100000) 100000 false _ A7.out).mono ?_); rintro e w' ⟨rfl, ⟨nd, rfl⟩⟩; refine ⟨_, rfl, ?_⟩))
       go_ret
       exact ⟨by first | rfl | (simp [errW_none, errW_some] <;> rfl) | (simp [*, errW_none, errW_some] <;> rfl), by repeat (first | (with_reducible first | exact HB.out | apply below_alloc | apply pw_below_drewN | apply below_drew1 | refine below_set ?_ GE101.out) | exact HB.out)⟩
     ·rw [if_neg c6] at H
      exact absurd H (by simp)
    ·rw [if_neg c5] at H
     exact absurd H (by simp)
   ·rw [if_neg c4] at H
    have c4b0 : decide (x8_1 < (l0_0.length : Int)) = false := decide_eq_false c4
    clear c4
    obtain rfl := Option.some.inj H
    have hcz9_0 : wr.cell? ⟨gb101, 0, none⟩ = some (.slice A0_0 l0_0.length c0_0) := (blk_cell BK101.out 0).trans rfl
    have hfz9_0 := blk_frozen BK101.out 0
    go_wp2
    go_ret
    exact ⟨by first | rfl | (simp [errW_none, errW_some] <;> rfl) | (simp [*, errW_none, errW_some] <;> rfl), by repeat (first | (with_reducible first | exact HB.out | apply below_alloc | apply pw_below_drewN | apply below_drew1 | refine below_set ?_ GE101.out) | exact HB.out)⟩

end Go.Proofs.Ytbnmkikifjidjaa.Q
end
section
/- Contracts of a function, printed for this claim by a program of ours over the kit's print. -/
namespace Go.Proofs.Ytbnmkikifjidjaa.Q
open Go.RowKit Go.Proofs.YtbnmkikifjidjaaW.PrintWords Go.Proofs.YtbnmkikifjidjaaW.PrintLast Go.Proofs.YtbnmkikifjidjaaW.PrintMore
attribute [local go_sem] max2_int min2_int max_two min_two max_three min_three max_four min_four   -- for this text's walks alone
set_option linter.unusedVariables false
set_option linter.unusedSimpArgs false

/-! ### impl_GoodRow: function 97 -/
def impl_GoodRow.f (l0_0 : List Int) : Option (Bool) := if (l0_0.length : Int) ≤ 6 then ((impl_areAll_int.f l0_0).bind fun t102 => (some t102)) else (some false)
set_option maxHeartbeats 8000000 in
set_option maxRecDepth 100000 in
theorem impl_GoodRow.calls (A0_0 : Option Addr) (c0_0 : Nat) (l0_0 : List Int) (r : Bool) (w : World) (hr0_0 : Kd.C (Kd.int .i64) w A0_0 l0_0.length l0_0) (hc0_0 : l0_0.length ≤ c0_0) (h : impl_GoodRow.f l0_0 = some r) :
  Calls Try.prog 97 #[.agg #[.slice A0_0 l0_0.length c0_0]] w fun e w' => e = .returned (.bool r) ∧ Below w.heap.size w w' := by
 have hu28 := Try.underlying28
 have HR0_0 := Aside0.mk hr0_0
 have HC0_0 := Aside0.mk hc0_0
 clear hr0_0 hc0_0
 have HB := Aside0.mk (Below.refl w.heap.size w)
 have H : (if (l0_0.length : Int) ≤ 6 then ((impl_areAll_int.f l0_0).bind fun t102 => (some t102)) else (some false)) = some r := h
 clear h
 by_cases c2 : (l0_0.length : Int) ≤ 6
 ·rw [if_pos c2] at H
  have c2b0 : decide ((l0_0.length : Int) ≤ 6) = true := decide_eq_true c2
  have c2b1 : decide (l0_0.length ≤ 6) = true := decide_eq_true (by omega)
  clear c2
  replace H := Option.bind_eq_some_iff.mp H
  obtain ⟨t102, A30, H⟩ := H
  replace H : (some t102) = some r := H
  have A3 := Aside0.mk A30
  clear A30
  obtain rfl := Option.some.inj H
  go_enter Try.func97, Try.ntmps97
  go_wp2_with (first | ((with_reducible refine gate_dst (N := 1) rfl ?_); refine box_event ?hg (N := 1) ?hd (cs := #[.slice A0_0 l0_0.length c0_0]) (t := 28) ?hr ?_; (case hd => rfl); (case hg => rfl); (case hr => first | (go_simp; done) | (go_simp; rfl)); intro gb101 hg w4 hbox hb; have n0_ := Aside0.mk (below_step (by repeat (first | (with_reducible first | exact HB.out | apply below_alloc | apply pw_below_drewN | apply below_drew1) | exact HB.out)) hb); have n1_ := Aside0.mk (hbox); have n2_ := Aside0.mk ((by rw [hg]; exact (below_size (by repeat (first | (with_reducible first | exact HB.out | apply below_alloc | apply pw_below_drewN | apply below_drew1) | exact HB.out))) : w.heap.size ≤ gb101)); have n3_ := Aside0.mk ((by rw [hg]; exact (below_size (by repeat (first | (with_reducible first | exact HB.out | apply below_alloc | apply pw_below_drewN | apply below_drew1) | exact HB.out))) : w.heap.size ≤ gb101)); clear HB; have HB := n0_; have BK101 := n1_; have GW101 := n2_; have GE101 := n3_; clear n0_ n1_ n2_ n3_; clear hb hbox hg; have hcz5_0 : w4.cell? ⟨gb101, 0, none⟩ = some (.slice A0_0 l0_0.length c0_0) := (blk_cell BK101.out 0).trans rfl; have hfz5_0 := blk_frozen BK101.out 0) | (go_at_call 104; (with_reducible refine (impl_areAll_int.calls _ _ l0_0 t102 _ ?side1 ?side2 A3.out).mono ?_); (case side1 => repeat (first | exact (Kd.C_below HR0_0.out HB.out) | (with_reducible refine Kd.C_alloc ?_ _) | (with_reducible refine Kd.C_drewN ?_ _) | (with_reducible refine Kd.C_drew ?_))); (case side2 => exact HC0_0.out); rintro e w6 ⟨rfl, hb⟩; have n0_ := Aside0.mk (blk_below (g := gb101) (o := .cells #[.slice A0_0 l0_0.length c0_0] 28 (0, 0)) (by (with_reducible repeat (first | refine blk_drewN ?_ _ | refine blk_drew ?_ | refine blk_alloc ?_ _)); exact BK101.out) hb); have n1_ := Aside0.mk (below_step (by repeat (first | (with_reducible first | exact HB.out | apply below_alloc | apply pw_below_drewN | apply below_drew1 | refine below_set ?_ GE101.out) | exact HB.out)) hb); clear BK101; clear HB; have BK101 := n0_; have HB := n1_; clear n0_ n1_; (try clear hb); (try clear hb2); (try clear hk); (try clear hi)))
  go_ret
  exact ⟨by first | rfl | (simp [errW_none, errW_some] <;> rfl) | (simp [*, errW_none, errW_some] <;> rfl), by repeat (first | (with_reducible first | exact HB.out | apply below_alloc | apply pw_below_drewN | apply below_drew1 | refine below_set ?_ GE101.out) | exact HB.out)⟩
 ·rw [if_neg c2] at H
  have c2b0 : decide ((l0_0.length : Int) ≤ 6) = false := decide_eq_false c2
  have c2b1 : decide (l0_0.length ≤ 6) = false := decide_eq_false (by omega)
  clear c2
  obtain rfl := Option.some.inj H
  go_enter Try.func97, Try.ntmps97
  go_wp2_with (first | ((with_reducible refine gate_dst (N := 1) rfl ?_); refine box_event ?hg (N := 1) ?hd (cs := #[.slice A0_0 l0_0.length c0_0]) (t := 28) ?hr ?_; (case hd => rfl); (case hg => rfl); (case hr => first | (go_simp; done) | (go_simp; rfl)); intro gb101 hg w7 hbox hb; have n0_ := Aside0.mk (below_step (by repeat (first | (with_reducible first | exact HB.out | apply below_alloc | apply pw_below_drewN | apply below_drew1) | exact HB.out)) hb); have n1_ := Aside0.mk (hbox); have n2_ := Aside0.mk ((by rw [hg]; exact (below_size (by repeat (first | (with_reducible first | exact HB.out | apply below_alloc | apply pw_below_drewN | apply below_drew1) | exact HB.out))) : w.heap.size ≤ gb101)); have n3_ := Aside0.mk ((by rw [hg]; exact (below_size (by repeat (first | (with_reducible first | exact HB.out | apply below_alloc | apply pw_below_drewN | apply below_drew1) | exact HB.out))) : w.heap.size ≤ gb101)); clear HB; have HB := n0_; have BK101 := n1_; have GW101 := n2_; have GE101 := n3_; clear n0_ n1_ n2_ n3_; clear hb hbox hg; have hcz8_0 : w7.cell? ⟨gb101, 0, none⟩ = some (.slice A0_0 l0_0.length c0_0) := (blk_cell BK101.out 0).trans rfl; have hfz8_0 := blk_frozen BK101.out 0))
  go_ret
  exact ⟨by first | rfl | (simp [errW_none, errW_some] <;> rfl) | (simp [*, errW_none, errW_some] <;> rfl), by repeat (first | (with_reducible first | exact HB.out | apply below_alloc | apply pw_below_drewN | apply below_drew1 | refine below_set ?_ GE101.out) | exact HB.out)⟩

end Go.Proofs.Ytbnmkikifjidjaa.Q
end
section
/- Contracts of a function, printed for this claim by a program of ours over the kit's print. -/
namespace Go.Proofs.Ytbnmkikifjidjaa.Q
open Go.RowKit Go.Proofs.YtbnmkikifjidjaaW.PrintWords Go.Proofs.YtbnmkikifjidjaaW.PrintLast Go.Proofs.YtbnmkikifjidjaaW.PrintMore
attribute [local go_sem] max2_int min2_int max_two min_two max_three min_three max_four min_four   -- for this text's walks alone
set_option linter.unusedVariables false
set_option linter.unusedSimpArgs false

/-! ### impl_isRowOf: function 76 -/
def impl_isRowOf.f (l0_0 : List Int) (a1 : Int) : Option (Bool) := (impl_GoodRow.f l0_0).bind fun t102 => (if t102 = true then (some ((l0_0.length : Int) == a1)) else (some false))
set_option maxHeartbeats 8000000 in
set_option maxRecDepth 100000 in
theorem impl_isRowOf.calls (A0_0 : Option Addr) (c0_0 : Nat) (l0_0 : List Int) (a1 : Int) (r : Bool) (w : World) (hr0_0 : Kd.C (Kd.int .i64) w A0_0 l0_0.length l0_0) (hc0_0 : l0_0.length ≤ c0_0) (h : impl_isRowOf.f l0_0 a1 = some r) :
  Calls Try.prog 76 #[.agg #[.slice A0_0 l0_0.length c0_0], .int .i64 a1] w fun e w' => e = .returned (.bool r) ∧ Below w.heap.size w w' := by
 have hu28 := Try.underlying28
 have HR0_0 := Aside0.mk hr0_0
 have HC0_0 := Aside0.mk hc0_0
 clear hr0_0 hc0_0
 have HB := Aside0.mk (Below.refl w.heap.size w)
 have H : ((impl_GoodRow.f l0_0).bind fun t102 => (if t102 = true then (some ((l0_0.length : Int) == a1)) else (some false))) = some r := h
 clear h
 replace H := Option.bind_eq_some_iff.mp H
 obtain ⟨t102, A30, H⟩ := H
 replace H : (if t102 = true then (some ((l0_0.length : Int) == a1)) else (some false)) = some r := H
 have A3 := Aside0.mk A30
 clear A30
 by_cases c4 : t102 = true
 ·subst c4
  have H1 : (some ((l0_0.length : Int) == a1)) = some r := by rw [if_pos rfl] at H; exact H
  clear H
  have H := H1
  clear H1
  obtain rfl := Option.some.inj H
  go_enter Try.func76, Try.ntmps76
  go_wp2_with (first | ((with_reducible refine gate_dst (N := 2) rfl ?_); (try (refine gate_guard (by rfl) ?_; dsimp only)); refine box_event ?hg (N := 2) ?hd (cs := #[.slice A0_0 l0_0.length c0_0]) (t := 28) ?hr ?_; (case hd => rfl); (case hg => rfl); (case hr => first | (go_simp; done) | (go_simp; rfl)); intro gb101 hg w5 hbox hb; have n0_ := Aside0.mk (below_step (by repeat (first | (with_reducible first | exact HB.out | apply below_alloc | apply pw_below_drewN | apply below_drew1) | exact HB.out)) hb); have n1_ := Aside0.mk (hbox); have n2_ := Aside0.mk ((by rw [hg]; exact (below_size (by repeat (first | (with_reducible first | exact HB.out | apply below_alloc | apply pw_below_drewN | apply below_drew1) | exact HB.out))) : w.heap.size ≤ gb101)); have n3_ := Aside0.mk ((by rw [hg]; exact (below_size (by repeat (first | (with_reducible first | exact HB.out | apply below_alloc | apply pw_below_drewN | apply below_drew1) | exact HB.out))) : w.heap.size ≤ gb101)); clear HB; have HB := n0_; have BK101 := n1_; have GW101 := n2_; have GE101 := n3_; clear n0_ n1_ n2_ n3_; clear hb hbox hg; have hcz6_0 : w5.cell? ⟨gb101, 0, none⟩ = some (.slice A0_0 l0_0.length c0_0) := (blk_cell BK101.out 0).trans rfl; have hfz6_0 := blk_frozen BK101.out 0) | ((with_reducible refine gate_callee (f := 97) rfl ?_); refine goesL_ (some 6) rfl rfl Try.func97 (by kernel_rfl) rfl #[.agg #[.slice A0_0 l0_0.length c0_0]] rfl (by (try simp only [List.map_toArray, List.map_cons, List.map_nil]); first | done | rfl | (simp only [List.length_drop, List.length_take]; rfl)) ?_; (with_reducible refine (impl_GoodRow.calls _ _ l0_0 true _ ?side1 ?side2 A3.out).mono ?_); (case side1 => repeat (first | exact (Kd.C_below HR0_0.out HB.out) | (with_reducible refine Kd.C_alloc ?_ _) | (with_reducible refine Kd.C_drewN ?_ _) | (with_reducible refine Kd.C_drew ?_))); (case side2 => exact HC0_0.out); rintro e w7 ⟨rfl, hb⟩; refine ⟨_, rfl, ?_⟩; have n0_ := Aside0.mk (blk_below (g := gb101) (o := .cells #[.slice A0_0 l0_0.length c0_0] 28 (0, 0)) (by (with_reducible repeat (first | refine blk_drewN ?_ _ | refine blk_drew ?_ | refine blk_alloc ?_ _)); exact BK101.out) hb); have n1_ := Aside0.mk (below_step (by repeat (first | (with_reducible first | exact HB.out | apply below_alloc | apply pw_below_drewN | apply below_drew1 | refine below_set ?_ GE101.out) | exact HB.out)) hb); clear BK101; clear HB; have BK101 := n0_; have HB := n1_; clear n0_ n1_; (try clear hb); (try clear hb2); (try clear hk); (try clear hi); have hcz8_0 : w7.cell? ⟨gb101, 0, none⟩ = some (.slice A0_0 l0_0.length c0_0) := (blk_cell BK101.out 0).trans rfl; have hfz8_0 := blk_frozen BK101.out 0))
  go_ret
  exact ⟨by first | rfl | (simp [errW_none, errW_some] <;> rfl) | (simp [*, errW_none, errW_some] <;> rfl), by repeat (first | (with_reducible first | exact HB.out | apply below_alloc | apply pw_below_drewN | apply below_drew1 | refine below_set ?_ GE101.out) | exact HB.out)⟩
 ·replace c4 := Bool.eq_false_iff.mpr c4
  subst c4
  have H1 : (some false) = some r := by rw [if_neg (show ¬ (false = true) by decide)] at H; exact H
  clear H
  have H := H1
  clear H1
  obtain rfl := Option.some.inj H
  go_enter Try.func76, Try.ntmps76
  go_wp2_with (first | ((with_reducible refine gate_dst (N := 2) rfl ?_); (try (refine gate_guard (by rfl) ?_; dsimp only)); refine box_event ?hg (N := 2) ?hd (cs := #[.slice A0_0 l0_0.length c0_0]) (t := 28) ?hr ?_; (case hd => rfl); (case hg => rfl); (case hr => first | (go_simp; done) | (go_simp; rfl)); intro gb101 hg w9 hbox hb; have n0_ := Aside0.mk (below_step (by repeat (first | (with_reducible first | exact HB.out | apply below_alloc | apply pw_below_drewN | apply below_drew1) | exact HB.out)) hb); have n1_ := Aside0.mk (hbox); have n2_ := Aside0.mk ((by rw [hg]; exact (below_size (by repeat (first | (with_reducible first | exact HB.out | apply below_alloc | apply pw_below_drewN | apply below_drew1) | exact HB.out))) : w.heap.size ≤ gb101)); have n3_ := Aside0.mk ((by rw [hg]; exact (below_size (by repeat (first | (with_reducible first | exact HB.out | apply below_alloc | apply pw_below_drewN | apply below_drew1) | exact HB.out))) : w.heap.size ≤ gb101)); clear HB; have HB := n0_; have BK101 := n1_; have GW101 := n2_; have GE101 := n3_; clear n0_ n1_ n2_ n3_; clear hb hbox hg; have hcz10_0 : w9.cell? ⟨gb101, 0, none⟩ = some (.slice A0_0 l0_0.length c0_0) := (blk_cell BK101.out 0).trans rfl; have hfz10_0 := blk_frozen BK101.out 0) | ((with_reducible refine gate_callee (f := 97) rfl ?_); refine goesL_ (some 6) rfl rfl Try.func97 (by kernel_rfl) rfl #[.agg #[.slice A0_0 l0_0.length c0_0]] rfl (by (try simp only [List.map_toArray, List.map_cons, List.map_nil]); first | done | rfl | (simp only [List.length_drop, List.length_take]; rfl)) ?_; (with_reducible refine (impl_GoodRow.calls _ _ l0_0 false _ ?side1 ?side2 A3.out).mono ?_); (case side1 => repeat (first | exact (Kd.C_below HR0_0.out HB.out) | (with_reducible refine Kd.C_alloc ?_ _) | (with_reducible refine Kd.C_drewN ?_ _) | (with_reducible refine Kd.C_drew ?_))); (case side2 => exact HC0_0.out); rintro e w11 ⟨rfl, hb⟩; refine ⟨_, rfl, ?_⟩; have n0_ := Aside0.mk (blk_below (g := gb101) (o := .cells #[.slice A0_0 l0_0.length c0_0] 28 (0, 0)) (by (with_reducible repeat (first | refine blk_drewN ?_ _ | refine blk_drew ?_ | refine blk_alloc ?_ _)); exact BK101.out) hb); have n1_ := Aside0.mk (below_step (by repeat (first | (with_reducible first | exact HB.out | apply below_alloc | apply pw_below_drewN | apply below_drew1 | refine below_set ?_ GE101.out) | exact HB.out)) hb); clear BK101; clear HB; have BK101 := n0_; have HB := n1_; clear n0_ n1_; (try clear hb); (try clear hb2); (try clear hk); (try clear hi)))
  go_ret
  exact ⟨by first | rfl | (simp [errW_none, errW_some] <;> rfl) | (simp [*, errW_none, errW_some] <;> rfl), by repeat (first | (with_reducible first | exact HB.out | apply below_alloc | apply pw_below_drewN | apply below_drew1 | refine below_set ?_ GE101.out) | exact HB.out)⟩

end Go.Proofs.Ytbnmkikifjidjaa.Q
end
section
/- Contracts of a function, printed for this claim by a program of ours over the kit's print. -/
namespace Go.Proofs.Ytbnmkikifjidjaa.Q
open Go.RowKit Go.Proofs.YtbnmkikifjidjaaW.PrintWords Go.Proofs.YtbnmkikifjidjaaW.PrintLast Go.Proofs.YtbnmkikifjidjaaW.PrintMore
attribute [local go_sem] max2_int min2_int max_two min_two max_three min_three max_four min_four   -- for this text's walks alone
set_option linter.unusedVariables false
set_option linter.unusedSimpArgs false

/-! ### impl_isSum: function 78 -/
def impl_isSum.f (a0 : Int) : Option (Bool) := (impl_within.f a0 (-100000000000000) 100000000000000).bind fun t101 => (some t101)
set_option maxHeartbeats 8000000 in
set_option maxRecDepth 100000 in
theorem impl_isSum.calls (a0 : Int) (r : Bool) (w : World) (h : impl_isSum.f a0 = some r) :
  Calls Try.prog 78 #[.int .i64 a0] w fun e w' => e = .returned (.bool r) ∧ Drawn0 w w' := by
 have H : ((impl_within.f a0 (-100000000000000) 100000000000000).bind fun t101 => (some t101)) = some r := h
 clear h
 replace H := Option.bind_eq_some_iff.mp H
 obtain ⟨t101, A20, H⟩ := H
 replace H : (some t101) = some r := H
 have A2 := Aside0.mk A20
 clear A20
 obtain rfl := Option.some.inj H
 go_enter Try.func78, Try.ntmps78
 go_wp2_with (first | ((with_reducible refine gate_callee (f := 98) rfl ?_); refine goesL_ (some 4) rfl rfl Try.func98 (by kernel_rfl) rfl #[.int .i64 a0, .int .i64 (-100000000000000), .int .i64 100000000000000] rfl (by (try simp only [List.map_toArray, List.map_cons, List.map_nil]); first | done | rfl | (simp only [List.length_drop, List.length_take]; rfl)) ?_; (with_reducible refine (impl_within.calls a0 (-100000000000000) 100000000000000 t101 _ A2.out).mono ?_); rintro e w' ⟨rfl, ⟨nd, rfl⟩⟩; refine ⟨_, rfl, ?_⟩))
 go_ret
 exact ⟨by first | rfl | (simp; done) | (simp [*]; done), by repeat (first | exact Drawn0.refl _ | apply Drawn0.step)⟩

end Go.Proofs.Ytbnmkikifjidjaa.Q
end
section
/- Contracts of a function, printed for this claim by a program of ours over the kit's print. -/
namespace Go.Proofs.Ytbnmkikifjidjaa.Q
open Go.RowKit Go.Proofs.YtbnmkikifjidjaaW.PrintWords Go.Proofs.YtbnmkikifjidjaaW.PrintLast Go.Proofs.YtbnmkikifjidjaaW.PrintMore
attribute [local go_sem] max2_int min2_int max_two min_two max_three min_three max_four min_four   -- for this text's walks alone
set_option linter.unusedVariables false
set_option linter.unusedSimpArgs false

/-! ### spec_l5Sum: function 74 -/
def spec_l5Sum.f (a0 : Int) : Option (Bool) := (spec_l1In.f a0 (-100000000000000) 100000000000000).bind fun t101 => (some t101)
set_option maxHeartbeats 8000000 in
set_option maxRecDepth 100000 in
theorem spec_l5Sum.calls (a0 : Int) (r : Bool) (w : World) (h : spec_l5Sum.f a0 = some r) :
  Calls Try.prog 74 #[.int .i64 a0] w fun e w' => e = .returned (.bool r) ∧ Drawn0 w w' := by
 have H : ((spec_l1In.f a0 (-100000000000000) 100000000000000).bind fun t101 => (some t101)) = some r := h
 clear h
 replace H := Option.bind_eq_some_iff.mp H
 obtain ⟨t101, A20, H⟩ := H
 replace H : (some t101) = some r := H
 have A2 := Aside0.mk A20
 clear A20
 obtain rfl := Option.some.inj H
 go_enter Try.func74, Try.ntmps74
 go_wp2_with (first | ((with_reducible refine gate_callee (f := 83) rfl ?_); refine goesL_ (some 4) rfl rfl Try.func83 (by kernel_rfl) rfl #[.int .i64 a0, .int .i64 (-100000000000000), .int .i64 100000000000000] rfl (by (try simp only [List.map_toArray, List.map_cons, List.map_nil]); first | done | rfl | (simp only [List.length_drop, List.length_take]; rfl)) ?_; (with_reducible refine (spec_l1In.calls a0 (-100000000000000) 100000000000000 t101 _ A2.out).mono ?_); rintro e w' ⟨rfl, ⟨nd, rfl⟩⟩; refine ⟨_, rfl, ?_⟩))
 go_ret
 exact ⟨by first | rfl | (simp; done) | (simp [*]; done), by repeat (first | exact Drawn0.refl _ | apply Drawn0.step)⟩

end Go.Proofs.Ytbnmkikifjidjaa.Q
end
section
/- Contracts of a function, printed for this claim by a program of ours over the kit's print. -/
namespace Go.Proofs.Ytbnmkikifjidjaa.Q
open Go.RowKit Go.Proofs.YtbnmkikifjidjaaW.PrintWords Go.Proofs.YtbnmkikifjidjaaW.PrintLast Go.Proofs.YtbnmkikifjidjaaW.PrintMore
attribute [local go_sem] max2_int min2_int max_two min_two max_three min_three max_four min_four   -- for this text's walks alone
set_option linter.unusedVariables false
set_option linter.unusedSimpArgs false

/-! ### impl_keyLength: function 77 -/
def impl_keyLength.f (l0 : List (S30)) : Option (Int) := if (l0.length : Int) = 0 then (some 0) else (if 0 < (l0.length : Int) then (some (((rd_T30 l0 0).f0.f0).length : Int)) else (none))
set_option maxHeartbeats 8000000 in
set_option maxRecDepth 100000 in
theorem impl_keyLength.calls (A0 : Option Addr) (c0 : Nat) (l0 : List (S30)) (r : Int) (w : World) (hr0 : Kd.C k30 w A0 l0.length l0) (hc0 : l0.length ≤ c0) (h : impl_keyLength.f l0 = some r) :
  Calls Try.prog 77 #[.slice A0 l0.length c0] w fun e w' => e = .returned (.int .i64 r) ∧ Drawn0 w w' := by
 have HR0 := Aside0.mk hr0
 have HC0 := Aside0.mk hc0
 clear hr0 hc0
 have H : (if (l0.length : Int) = 0 then (some 0) else (if 0 < (l0.length : Int) then (some (((rd_T30 l0 0).f0.f0).length : Int)) else (none))) = some r := h
 clear h
 by_cases c2 : (l0.length : Int) = 0
 ·rw [if_pos c2] at H
  have c2b0 : ((l0.length : Int) == 0) = true := beq_iff_eq.mpr c2
  have c2b1 : ((l0.length : Int) != 0) = false := bne_eq_false_iff_eq.mpr c2
  clear c2
  obtain rfl := Option.some.inj H
  go_enter Try.func77, Try.ntmps77
  go_wp2
  go_ret
  exact ⟨by first | rfl | (simp; done) | (simp [*]; done), by repeat (first | exact Drawn0.refl _ | apply Drawn0.step)⟩
 ·rw [if_neg c2] at H
  have c2b0 : ((l0.length : Int) == 0) = false := beq_eq_false_iff_ne.mpr c2
  have c2b1 : ((l0.length : Int) != 0) = true := bne_iff_ne.mpr c2
  have c2b2 : ¬ (l0 = []) := fun h_ => c2 (by rw [h_]; rfl)
  by_cases c3 : 0 < (l0.length : Int)
  ·rw [if_pos c3] at H
   have c3b0 : decide (0 < (l0.length : Int)) = true := decide_eq_true c3
   have c3b1 : decide (0 < l0.length) = true := decide_eq_true (by omega)
   clear c3
   obtain rfl := Option.some.inj H
   have p101 : 0 ≤ (0 : Int) := (by omega)
   have q101 : 0 < (l0.length : Int) := of_decide_eq_true (by first | (with_reducible assumption) | assumption)
   obtain ⟨ad101, A101_0, c101_0, e101, hx101_0, hx101_1, hx101_2, hl101_0, hi101_0⟩ := at_T30 HR0.out 0 p101 q101
   cases e101
   have qi101 : (0 < l0.length) = True := eq_true (by omega)
   (try rw [show ((0 : Int)).toNat = 0 from rfl] at hx101_0)
   (try rw [show 0 * 3 = 0 from rfl] at hx101_0)
   (try rw [Addr.add_zero'] at hx101_0)
   (try rw [show ((0 : Int)).toNat = 0 from rfl] at hx101_1)
   (try rw [show 0 * 3 = 0 from rfl] at hx101_1)
   (try rw [Addr.add_zero'] at hx101_1)
   (try rw [show ((0 : Int)).toNat = 0 from rfl] at hx101_2)
   (try rw [show 0 * 3 = 0 from rfl] at hx101_2)
   (try rw [Addr.add_zero'] at hx101_2)
   have HR101_0 := Aside0.mk hi101_0
   have HC101_0 := Aside0.mk hl101_0
   clear hi101_0 hl101_0
   replace p101 := eq_true p101
   replace q101 := eq_true q101
   go_enter Try.func77, Try.ntmps77
   go_wp2
   go_ret
   exact ⟨by first | rfl | (simp; done) | (simp [*]; done), by repeat (first | exact Drawn0.refl _ | apply Drawn0.step)⟩
  ·rw [if_neg c3] at H
   exact absurd H (by simp)

end Go.Proofs.Ytbnmkikifjidjaa.Q
end
section
/- Rows compared and told good: what the program's and the specification's functions compute, as plain functions of lists. -/
namespace Go.Proofs.Ytbnmkikifjidjaa.Q
open Go.RowKit Go.Proofs.YtbnmkikifjidjaaW.PrintWords Go.Proofs.YtbnmkikifjidjaaW.PrintLast
set_option linter.unusedVariables false
set_option linter.unusedSimpArgs false

theorem wrap_id (x : Int) (h0 : -9223372036854775808 ≤ x) (h1 : x ≤ 9223372036854775807) : wrap64 x = x := by unfold wrap64; omega
def cmpR : List Int → List Int → Int
 | [], [] => 0
 | [], _ :: _ => -1
 | _ :: _, [] => 1
 | x :: a, y :: b => if x < y then -1 else if x > y then 1 else cmpR a b
theorem rd_at (l : List Int) (i : Nat) (h : i < l.length) : rd l (i : Int) = l[i] := by
 show l.getD i 0 = _
 rw [List.getD_eq_getElem?_getD, List.getElem?_eq_getElem h]; rfl
theorem drop_at {α : Type} (l : List α) (i : Nat) (h : i < l.length) : l.drop i = l[i] :: l.drop (i + 1) := List.drop_eq_getElem_cons h
theorem specCompare_l0 (a b : List Int) (ha : a.length ≤ 1000000000) (hb : b.length ≤ 1000000000) (d : Nat) : ∀ (f i : Nat), i ≤ a.length → i ≤ b.length → i + d = a.length → 2 * d + 1 < f → spec_l1Compare.l0 f (i : Int) a b = some (cmpR (a.drop i) (b.drop i)) := by
 induction d with
 | zero =>
  intro f i h1 h2 hi hf
  obtain ⟨f, rfl⟩ : ∃ m, f = m + 2 := ⟨f - 2, by omega⟩
  simp only [spec_l1Compare.l0, spec_l1Compare.j1]
  rw [if_neg (by omega), List.drop_eq_nil_of_le (by omega : a.length ≤ i)]
  simp only [Bool.false_eq_true, if_false]
  by_cases hlt : i < b.length
  ·rw [if_pos (by omega), drop_at b i hlt]; rfl
  ·rw [if_neg (by omega), if_neg (by omega), List.drop_eq_nil_of_le (by omega)]; rfl
 | succ d ih =>
  intro f i h1 h2 hi hf
  obtain ⟨f, rfl⟩ : ∃ m, f = m + 2 := ⟨f - 2, by omega⟩
  have hlt : i < a.length := by omega
  simp only [spec_l1Compare.l0, spec_l1Compare.j1]
  rw [if_pos (by omega), drop_at a i hlt]
  by_cases hlb : i < b.length
  ·rw [decide_eq_true (by omega : (i : Int) < (b.length : Int)), drop_at b i hlb]
   rw [if_pos rfl, if_pos (by omega), if_pos (by omega), if_pos (by omega), rd_at a i hlt, rd_at b i hlb]
   simp only [cmpR]
   rw [wrap_id ((i : Int) + 1) (by omega) (by omega), show (i : Int) + 1 = ((i + 1 : Nat) : Int) from by omega]
   by_cases c1 : a[i] < b[i]
   ·rw [if_pos c1, if_pos c1]
   ·rw [if_neg c1, if_neg c1]
    by_cases c2 : a[i] > b[i]
    ·rw [if_pos c2, if_pos c2]
    ·rw [if_neg c2, if_neg c2]
     exact ih f (i + 1) (by omega) (by omega) (by omega) (by omega)
  ·rw [decide_eq_false (by omega : ¬ (i : Int) < (b.length : Int)), List.drop_eq_nil_of_le (by omega : b.length ≤ i)]
   simp only [Bool.false_eq_true, if_false]
   rw [if_neg (by omega), if_pos (by omega)]; rfl
theorem specCompare_f (a b : List Int) (ha : a.length ≤ 1000000000) (hb : b.length ≤ 1000000000) (k : Nat) (hk : 2 * a.length + 1 < k) : spec_l1Compare.f k a b = some (cmpR a b) := by
 have := specCompare_l0 a b ha hb a.length k 0 (by omega) (by omega) (by omega) hk
 simpa [spec_l1Compare.f] using this
theorem cmpInt_f (a b : Int) : cmp_Compare_int.f a b = some (if a < b then -1 else if a > b then 1 else 0) := by
 unfold cmp_Compare_int.f cmp_isNaN_int.f
 simp
 split
 ·rfl
 ·split <;> rfl
theorem implCompare_l0 (a b : List Int) (ha : a.length ≤ 1000000000) (hb : b.length ≤ 1000000000) (d : Nat) : ∀ (f i : Nat), i ≤ a.length → i ≤ b.length → i + d = a.length → d < f → slices_Compare_int_int.l0 f a b a (a.length : Int) (i : Int) = some (cmpR (a.drop i) (b.drop i)) := by
 induction d with
 | zero =>
  intro f i h1 h2 hi hf
  obtain ⟨f, rfl⟩ : ∃ m, f = m + 1 := ⟨f - 1, by omega⟩
  simp only [slices_Compare_int_int.l0]
  rw [if_neg (by omega), List.drop_eq_nil_of_le (by omega : a.length ≤ i)]
  by_cases hlt : i < b.length
  ·rw [if_pos (by omega), drop_at b i hlt]; rfl
  ·rw [if_neg (by omega), List.drop_eq_nil_of_le (by omega)]; rfl
 | succ d ih =>
  intro f i h1 h2 hi hf
  obtain ⟨f, rfl⟩ : ∃ m, f = m + 1 := ⟨f - 1, by omega⟩
  have hlt : i < a.length := by omega
  simp only [slices_Compare_int_int.l0]
  rw [if_pos (by omega), if_pos (by omega), if_pos (by omega), drop_at a i hlt]
  by_cases hlb : i < b.length
  ·rw [if_neg (by omega), if_pos (by omega), drop_at b i hlb, rd_at a i hlt, rd_at b i hlb, cmpInt_f]
   simp only [cmpR, Option.bind_some]
   rw [wrap_id ((i : Int) + 1) (by omega) (by omega), show (i : Int) + 1 = ((i + 1 : Nat) : Int) from by omega]
   by_cases c1 : a[i] < b[i]
   ·rw [if_pos c1, if_pos c1]; simp
   ·rw [if_neg c1, if_neg c1]
    by_cases c2 : a[i] > b[i]
    ·rw [if_pos c2, if_pos c2]; simp
    ·rw [if_neg c2, if_neg c2]
     simp only [if_true]
     exact ih f (i + 1) (by omega) (by omega) (by omega) (by omega)
  ·rw [if_pos (by omega), List.drop_eq_nil_of_le (by omega : b.length ≤ i)]; rfl
theorem implCompare_f (a b : List Int) (ha : a.length ≤ 1000000000) (hb : b.length ≤ 1000000000) (k : Nat) (hk : a.length < k) : impl_compareRows.f k a b = some (cmpR a b) := by
 have := implCompare_l0 a b ha hb a.length k 0 (by omega) (by omega) (by omega) hk
 simp [impl_compareRows.f, slices_Compare_int_int.f] at this ⊢
 exact this
def goodRowB (l : List Int) : Bool := decide (l.length ≤ 6) && l.all cellB
theorem implGoodRow_f (l : List Int) : impl_GoodRow.f l = some (goodRowB l) := by
 unfold impl_GoodRow.f impl_areAll_int.f goodRowB
 by_cases h : l.length ≤ 6 <;> simp [h] <;> omega
theorem cellB_spec (x : Int) : spec_l1In.f x (-100000) 100000 = some (cellB x) := by
 unfold spec_l1In.f cellB
 by_cases h0 : -100000 ≤ x <;> by_cases h1 : x ≤ 100000 <;> simp [h0, h1]
theorem specGood_l0 (l : List Int) (hl : l.length ≤ 9223372036854775807) (d : Nat) : ∀ (f i : Nat), i + d = l.length → d < f → spec_GoodRow.l0 f l (l.length : Int) (i : Int) l = some (decide (l.length ≤ 6) && (l.drop i).all cellB) := by
 induction d with
 | zero =>
  intro f i hi hf
  obtain ⟨f, rfl⟩ : ∃ m, f = m + 1 := ⟨f - 1, by omega⟩
  simp only [spec_GoodRow.l0]
  rw [if_neg (by omega), List.drop_eq_nil_of_le (by omega)]
  simp only [List.all_nil, Bool.and_true]
  congr 1
  exact decide_eq_decide.2 (by omega)
 | succ d ih =>
  intro f i hi hf
  obtain ⟨f, rfl⟩ : ∃ m, f = m + 1 := ⟨f - 1, by omega⟩
  have hlt : i < l.length := by omega
  have := ih f (i + 1) (by omega) (by omega)
  simp only [spec_GoodRow.l0]
  rw [if_pos (by omega), if_pos (by omega), if_pos (by omega), rd_at l i hlt, drop_at l i hlt, cellB_spec, wrap_id ((i : Int) + 1) (by omega) (by omega), show (i : Int) + 1 = ((i + 1 : Nat) : Int) from by omega, this]
  simp only [Option.bind_some, List.all_cons]
  cases cellB l[i] <;> simp
theorem specGoodRow_f (l : List Int) (hl : l.length ≤ 9223372036854775807) (k : Nat) (hk : l.length < k) : spec_GoodRow.f k l = some (goodRowB l) := by
 have := specGood_l0 l hl l.length k 0 (by omega) (by omega)
 simpa [spec_GoodRow.f, goodRowB] using this
def sumB (x : Int) : Bool := decide (-100000000000000 ≤ x ∧ x ≤ 100000000000000)
theorem implSum_f (x : Int) : impl_isSum.f x = some (sumB x) := by
 unfold impl_isSum.f impl_within.f sumB
 by_cases h0 : -100000000000000 ≤ x <;> by_cases h1 : x ≤ 100000000000000 <;> simp [h0, h1]
theorem specSum_f (x : Int) : spec_l5Sum.f x = some (sumB x) := by
 unfold spec_l5Sum.f spec_l1In.f sumB
 by_cases h0 : -100000000000000 ≤ x <;> by_cases h1 : x ≤ 100000000000000 <;> simp [h0, h1]
theorem isRowOf_f (l : List Int) (n : Int) : impl_isRowOf.f l n = some (goodRowB l && ((l.length : Int) == n)) := by
 unfold impl_isRowOf.f
 rw [implGoodRow_f]
 simp only [Option.bind_some]
 cases goodRowB l <;> simp
end Go.Proofs.Ytbnmkikifjidjaa.Q
end
section
/- Steps through a region that draws its order, taken in the text's order: what is not wanted (rU), what reads (rL), what calls or makes (rC). -/
namespace Go.Proofs.Ytbnmkikifjidjaa.Q
open Go.RowKit Go.Proofs.YtbnmkikifjidjaaW.PrintWords Go.Proofs.YtbnmkikifjidjaaW.PrintLast
set_option linter.unusedVariables false
set_option linter.unusedSimpArgs false

def upR (n i : Nat) : Array Bool := (List.replicate i true ++ List.replicate (n - i) false).toArray
theorem upR_zero (n : Nat) : Array.replicate n false = upR n 0 := by simp [upR]
section
variable {P : Program} {ops : Array Oper} {Q : Exit → Act → World → Prop} {md : Region.Mode} {S : World → Prop}
theorem rS {id n : Nat} {a : Act} {w : World} {T : Bool × List (List Nat × List Nat)} {B : List Nat} (hT : rtab .any ops = T) (hB : waitsOk T.2 B = true) (hm : P.follows .mixedOrders = true) (hn : ops.size = n) (hS : S w.drew)
  (h : S w.drew → Aside0 (rtab .any ops = T) → Aside0 (waitsOk T.2 B = true) → wpAnyLast P .any ops Q S [] n (upR n 0) a w.drew) : (Code.region id ops true).wp P Q a w :=
 start_ (upR n 0) hm hn (upR_zero n) hS (fun hS' => h hS' ⟨hT⟩ ⟨hB⟩)
theorem rL (i j : Nat) {n fuel : Nat} {T : Bool × List (List Nat × List Nat)} {B : List Nat} {N : Option Tmp} {oi : Oper} {v : Value} {a a' : Act} {w : World} (hT : Aside0 (rtab md ops = T)) (hB : Aside0 (waitsOk T.2 B = true)) (hj : i + 1 = j) (hi : ops[i]? = some oi) (hN : oi.dst = N)
  (hc : takeW T B [] (upR n i).toList (upR n j).toList i = true) (hQ : ∀ c a w, Q (.panic c) (a.put oi.dst v) w → Q (.panic c) a w) (hS : S w) (hw : Region.wanted oi (yielded ops a.tmps) = true)
  (hy : ∀ w, S w → (execOp a.eval oi).run P w = .ok (.value v) w) (ha : a.put N v = a') (h : wpAnyLast P md ops Q S [] fuel (upR n j) a' w) : wpAnyLast P md ops Q S [] (fuel + 1) (upR n i) a w :=
 take_ (upR n j) hi hN (take_ofW hT.out hB.out hc) hQ (Or.inl ⟨hw, hy⟩) hS ha h
theorem rU (i j : Nat) {n fuel : Nat} {T : Bool × List (List Nat × List Nat)} {B : List Nat} {N : Option Tmp} {oi : Oper} {a a' : Act} {w : World} (hT : Aside0 (rtab md ops = T)) (hB : Aside0 (waitsOk T.2 B = true)) (hj : i + 1 = j) (hi : ops[i]? = some oi) (hN : oi.dst = N)
  (hc : takeW T B [] (upR n i).toList (upR n j).toList i = true) (hQ : ∀ c a w, Q (.panic c) (a.put oi.dst undef) w → Q (.panic c) a w) (hS : S w) (hw : Region.wanted oi (yielded ops a.tmps) = false)
  (ha : a.put N undef = a') (h : wpAnyLast P md ops Q S [] fuel (upR n j) a' w) : wpAnyLast P md ops Q S [] (fuel + 1) (upR n i) a w :=
 take_ (upR n j) hi hN (take_ofW hT.out hB.out hc) hQ (Or.inr ⟨hw, rfl⟩) hS ha h
theorem rD {n : Nat} {T : Bool × List (List Nat × List Nat)} {a : Act} {w : World} (hT : Aside0 (rtab md ops = T)) {l : Array Bool} (hc : (readyT T.2 l.toList == []) = true) (h : Q .normal a w) : wpAnyLast P md ops Q S [] n l a w :=
 done_ (done_of hT.out hc) h
end
end Go.Proofs.Ytbnmkikifjidjaa.Q
end
section
/- Groups told good: the program's and the specification's test of a list of groups, both as one plain function. -/
namespace Go.Proofs.Ytbnmkikifjidjaa.Q
open Go.RowKit Go.Proofs.YtbnmkikifjidjaaW.PrintWords Go.Proofs.YtbnmkikifjidjaaW.PrintLast
set_option linter.unusedVariables false
set_option linter.unusedSimpArgs false

def key0 (l : List S30) : Int := ((l.getD 0 z30).f0.f0.length : Int)
def rowOfB (x : List Int) (n : Int) : Bool := goodRowB x && ((x.length : Int) == n)
def zeroB (a b : Int) : Bool := decide (a = 0) && decide (b = 0)
def gPre (l : List S30) (i : Nat) : Bool := decide (0 < i) && decide (0 ≤ cmpR (l.getD (i - 1) z30).f0.f0 (l.getD i z30).f0.f0)
/-- What is asked of group i of a list. -/
def gOK (l : List S30) (i : Nat) : Bool :=
 rowOfB (l.getD i z30).f0.f0 (key0 l) && sumB (l.getD i z30).f1 && sumB (l.getD i z30).f2 && !zeroB (l.getD i z30).f1 (l.getD i z30).f2 && !gPre l i
def goodGroupsB (l : List S30) : Bool := (List.range l.length).all (gOK l) && decide (l.length ≤ 60)
theorem goodG_no (l : List S30) (i : Nat) (hi : i < l.length) (h : gOK l i = false) : goodGroupsB l = false := by
 have : (List.range l.length).all (gOK l) = false := by
  rw [Bool.eq_false_iff]
  intro hall
  have := List.all_eq_true.1 hall i (List.mem_range.2 hi)
  rw [h] at this; cases this
 simp [goodGroupsB, this]
theorem goodG_yes (l : List S30) (h : ∀ j, j < l.length → gOK l j = true) : goodGroupsB l = decide (l.length ≤ 60) := by
 have : (List.range l.length).all (gOK l) = true := List.all_eq_true.2 fun x hx => h x (List.mem_range.1 hx)
 simp [goodGroupsB, this]
theorem keyLength_f (l : List S30) (h : 0 < l.length) : impl_keyLength.f l = some (key0 l) := by
 unfold impl_keyLength.f key0
 rw [if_neg (by omega), if_pos (by omega)]; rfl
theorem isRowOf_any (A : Option Addr) (c : Nat) (x : List Int) (n : Int) (W : World) (h : Kd.C (Kd.int .i64) W A x.length x) (hc : x.length ≤ c) {b : Bool} (hb : rowOfB x n = b) :
  Calls Try.prog 76 #[.agg #[.slice A x.length c], .int .i64 n] W fun e w' => e = .returned (.bool b) ∧ Below W.heap.size W w' := impl_isRowOf.calls A c x n _ W h hc (hb ▸ isRowOf_f x n)
theorem isSum_any (x : Int) (W : World) {b : Bool} (hb : sumB x = b) : Calls Try.prog 78 #[.int .i64 x] W fun e w' => e = .returned (.bool b) ∧ Below W.heap.size W w' :=
 (impl_isSum.calls x _ W (hb ▸ implSum_f x)).mono fun e w' h => ⟨h.1, h.2.below⟩
theorem keyLength_any (A : Option Addr) (c : Nat) (l : List S30) (W : World) (h : Kd.C k30 W A l.length l) (hc : l.length ≤ c) (hp : 0 < l.length) :
  Calls Try.prog 77 #[.slice A l.length c] W fun e w' => e = .returned (.int .i64 (key0 l)) ∧ Below W.heap.size W w' :=
 (impl_keyLength.calls A c l _ W h hc (keyLength_f l hp)).mono fun e w' h => ⟨h.1, h.2.below⟩
theorem compare_any (A A' : Option Addr) (c c' : Nat) (x y : List Int) (W : World) (hx : Kd.C (Kd.int .i64) W A x.length x) (hcx : x.length ≤ c) (hy : Kd.C (Kd.int .i64) W A' y.length y) (hcy : y.length ≤ c') (h1 : x.length ≤ 1000000000) (h2 : y.length ≤ 1000000000) :
  Calls Try.prog 46 #[.agg #[.slice A x.length c], .agg #[.slice A' y.length c']] W fun e w' => e = .returned (.int .i64 (cmpR x y)) ∧ Below W.heap.size W w' :=
 impl_compareRows.calls (x.length + 1) A c x A' c' y _ W hx hcx hy hcy (implCompare_f x y h1 h2 _ (Nat.lt_succ_self _))
theorem goodRow_len {x : List Int} (h : goodRowB x = true) : x.length ≤ 6 := by
 unfold goodRowB at h
 simp at h
 exact h.1
theorem rowOf_len {x : List Int} {n : Int} (h : rowOfB x n = true) : x.length ≤ 6 := by
 unfold rowOfB at h
 exact goodRow_len (by simp at h; exact h.1)

theorem gOK_rw (l : List S30) (i : Nat) (y p : S30) (hy : l.getD i z30 = y) (hp : l.getD (i - 1) z30 = p) : gOK l i = (rowOfB y.f0.f0 (key0 l) && sumB y.f1 && sumB y.f2 && !zeroB y.f1 y.f2 && !(decide (0 < i) && decide (0 ≤ cmpR p.f0.f0 y.f0.f0))) := by
 unfold gOK gPre
 rw [hy, hp]

def T47_4 : Bool × List (List Nat × List Nat) := (true, [([], []), ([0], [0]), ([], []), ([2], [2]), ([1, 3, 3], [1, 3]), ([4], [4]), ([5, 4], [5]), ([6], [6]), ([7, 6], [6, 7]), ([8, 6, 6], [6, 8]), ([9, 6], [6, 9]), ([6, 10], [6, 10]), ([11, 9], [11]), ([12], [12]), ([13, 12], [12, 13]), ([14, 12, 12], [12, 14]), ([15, 12], [12, 15]), ([12, 16], [12, 16]), ([17, 15], [17]), ([18], [18]), ([19, 18], [18, 19]), ([20, 18], [18, 20]), ([21, 18, 18], [18, 21]), ([22], [22]), ([23, 22], [22, 23]), ([24, 22], [22, 24]), ([22, 25, 18], [18, 22, 25]), ([18, 26], [18, 26]), ([27, 22], [27]), ([28], [28]), ([29, 28], [28, 29]), ([30, 28, 28], [28, 30]), ([31], [31]), ([31], [31]), ([33, 31], [31, 33]), ([32, 34, 31], [31, 32, 34]), ([35, 31], [31, 35]), ([36, 31], [31, 36]), ([31], [31]), ([38, 31], [31, 38]), ([37, 39, 31, 31], [31, 37, 39]), ([40, 31], [31, 40]), ([31, 41, 28], [28, 31, 41]), ([28, 42], [28, 42])])
def B47_4 : List Nat := [0, 1, 0, 4, 15, 31, 63, 127, 255, 511, 1023, 2047, 4095, 8191, 16383, 32767, 65535, 131071, 262143, 524287, 1048575, 2097151, 4194303, 8388607, 16777215, 33554431, 67108863, 134217727, 268435455, 536870911, 1073741823, 2147483647, 4294967295, 4294967295, 12884901887, 34359738367, 68719476735, 137438953471, 4294967295, 279172874239, 1099511627775, 2199023255551, 4398046511103, 8796093022207]
theorem tab47_4 : rtab .any (opsOf Try.f47 4) = T47_4 := by kernel_rfl
theorem bits47_4 : waitsOk T47_4.2 B47_4 = true := by kernel_rfl
theorem cells3_ {w : World} {g t : Nat} {v0 v1 v2 : Value} (h : w.heap[g]? = some (.cells #[v0, v1, v2] t (0, 0))) : w.cell? ⟨g, 0, none⟩ = some v0 ∧ w.cell? ⟨g, 1, none⟩ = some v1 ∧ w.cell? ⟨g, 2, none⟩ = some v2 :=
 ⟨(blk_cell h 0).trans rfl, (blk_cell h 1).trans rfl, (blk_cell h 2).trans rfl⟩
set_option maxHeartbeats 8000000 in
set_option maxRecDepth 100000 in
theorem implGoodGroups_calls (A : Option Addr) (c : Nat) (l : List S30) (w : World) (hr : Kd.C k30 w A l.length l) (hcap : l.length ≤ c) :
  Calls Try.prog 47 #[.slice A l.length c] w fun e w' => e = .returned (.bool (goodGroupsB l)) ∧ Below w.heap.size w w' := by
 have hbig : l.length ≤ 9223372036854775807 := hr.2.1
 have HR := Aside0.mk hr
 have HCAP := Aside0.mk hcap
 have hu30 := Try.underlying30
 clear hr hcap
 go_enter Try.func47, Try.ntmps47
 go_wp2
 go_loopg [7] l.length (fun gg v7 wr => ∃ kk : Nat, kk ≤ l.length ∧ l.length - kk ≤ gg ∧ v7 = .int .i64 kk ∧ Aside0 (Below w.heap.size w wr) ∧ Aside0 (∀ j, j < kk → gOK l j = true))
 case atStart => exact ⟨0, Nat.zero_le _, by omega, rfl, ⟨Below.refl _ w⟩, ⟨fun j hj => absurd hj (Nat.not_lt_zero _)⟩⟩
 case round =>
  obtain ⟨kk, hkk, hg, rfl, BW, F⟩ := hrel
  by_cases hlt : kk < l.length
  ·have hltz : (kk : Int) < (l.length : Int) := by omega
   obtain ⟨ad, A0_, c0_, e, hx0, hx1, hx2, hl0_, hC0_⟩ := at_T30 (Kd.C_below HR.out BW.out) (kk : Int) (by omega) hltz
   subst e
   have hy0 : rd_T30 l (kk : Int) = l.getD kk z30 := rfl
   rw [hy0] at hx0 hx1 hx2 hl0_ hC0_
   clear hy0
   simp only [Int.toNat_natCast] at hx0 hx1 hx2
   have HC := Aside0.mk (And.intro hl0_ hC0_)
   clear hl0_ hC0_
   have HP : Aside0 (0 < kk → ∃ A1 c1, (l.getD (kk - 1) z30).f0.f0.length ≤ c1 ∧ Kd.C (Kd.int .i64) wr A1 (l.getD (kk - 1) z30).f0.f0.length (l.getD (kk - 1) z30).f0.f0 ∧ wr.cell? (ad.add ((kk - 1) * 3)) = some (.slice A1 (l.getD (kk - 1) z30).f0.f0.length c1) ∧ (l.getD (kk - 1) z30).f0.f0.length ≤ 1000000000) := ⟨fun hpos => by
    obtain ⟨ad1, A1, c1, e, q0, _, _, q3, q4⟩ := at_T30 (Kd.C_below HR.out BW.out) ((kk : Int) - 1) (by omega) (by omega)
    obtain rfl := Option.some.inj e
    have hy0 : rd_T30 l ((kk : Int) - 1) = l.getD (kk - 1) z30 := by
     show l.getD ((kk : Int) - 1).toNat z30 = _
     rw [show ((kk : Int) - 1).toNat = kk - 1 from by omega]
    rw [hy0, show ((kk : Int) - 1).toNat = kk - 1 from by omega] at q0
    rw [hy0] at q3 q4
    refine ⟨A1, c1, q3, q4, q0, ?_⟩
    have hok := F.out (kk - 1) (by omega)
    unfold gOK at hok
    simp only [Bool.and_eq_true] at hok
    have := rowOf_len hok.1.1.1.1
    omega⟩
   have GR := fun y p hy hp => gOK_rw l kk y p hy hp
   generalize hy : l.getD kk z30 = y at hx0 hx1 hx2 HC GR
   generalize hp : l.getD (kk - 1) z30 = p at HP GR
   have GR := Aside0.mk (GR y p rfl rfl)
   clear hy hp
   go_upto_region 4 with fail
   have hA := heap_alloc_new wr (.cells #[.slice A0_ y.f0.f0.length c0_, .int .i64 y.f1, .int .i64 y.f2] 30)
   have hb : Below wr.heap.size wr (wr.alloc (.cells #[.slice A0_ y.f0.f0.length c0_, .int .i64 y.f1, .int .i64 y.f2] 30)) := (Below.refl _ wr).alloc (Nat.le_refl _) _
   have HB := Aside0.mk (below_then BW.out BW.out.size hb)
   have HCy := Aside0.mk (Kd.C_below HC.out.2 hb)
   have HP1 : Aside0 (0 < kk → ∃ A1 c1, p.f0.f0.length ≤ c1 ∧ Kd.C (Kd.int .i64) (wr.alloc (.cells #[.slice A0_ y.f0.f0.length c0_, .int .i64 y.f1, .int .i64 y.f2] 30)) A1 p.f0.f0.length p.f0.f0 ∧ (wr.alloc (.cells #[.slice A0_ y.f0.f0.length c0_, .int .i64 y.f1, .int .i64 y.f2] 30)).cell? (ad.add ((kk - 1) * 3)) = some (.slice A1 p.f0.f0.length c1) ∧ p.f0.f0.length ≤ 1000000000) := ⟨fun hpos => by
    obtain ⟨A1, c1, q1, q2, q3, q4⟩ := HP.out hpos
    exact ⟨A1, c1, q1, Kd.C_below q2 hb, pw_cell_below hb q3, q4⟩⟩
   clear hb HP hx0 hx1 hx2
   generalize wr.heap.size = g at hA ⊢
   generalize wr.alloc (.cells #[.slice A0_ y.f0.f0.length c0_, .int .i64 y.f1, .int .i64 y.f2] 30) = W at hA HB HCy HP1 ⊢
   have HL := Aside0.mk hltz
   clear hltz
   have HBW : Aside0 (Below W.heap.size W W.drew) := ⟨(Below.refl _ _).drew⟩
   have HA := Aside0.mk hA
   clear hA
   have FIN : ∀ W', Below W.heap.size W W' → Aside0 (Below w.heap.size w W') := fun W' h => ⟨below_then HB.out HB.out.size h⟩
   have FIN := Aside0.mk FIN
   obtain ⟨A1, c1, hP1⟩ : ∃ A1 c1, Aside0 (0 < kk → p.f0.f0.length ≤ c1 ∧ Kd.C (Kd.int .i64) W A1 p.f0.f0.length p.f0.f0 ∧ W.cell? (ad.add ((kk - 1) * 3)) = some (.slice A1 p.f0.f0.length c1) ∧ p.f0.f0.length ≤ 1000000000) := by
    by_cases hpos : 0 < kk
    ·obtain ⟨A1, c1, q⟩ := HP1.out hpos
     exact ⟨A1, c1, ⟨fun _ => q⟩⟩
    ·exact ⟨none, 0, ⟨fun h => absurd h hpos⟩⟩
   clear HP1
   generalize hcv : cmpR p.f0.f0 y.f0.f0 = cv at GR
   have HCV := Aside0.mk hcv; clear hcv
   refine rS (S := fun w' => w'.cell? ⟨g, 0, none⟩ = some (.slice A0_ y.f0.f0.length c0_) ∧ w'.cell? ⟨g, 1, none⟩ = some (.int .i64 y.f1) ∧ w'.cell? ⟨g, 2, none⟩ = some (.int .i64 y.f2) ∧ (0 < kk → w'.cell? (ad.add ((kk - 1) * 3)) = some (.slice A1 p.f0.f0.length c1))) tab47_4 bits47_4 (by kernel_rfl) rfl ⟨(cells3_ (blk_below HA.out HBW.out)).1, (cells3_ (blk_below HA.out HBW.out)).2.1, (cells3_ (blk_below HA.out HBW.out)).2.2, fun h => pw_cell_below HBW.out (hP1.out h).2.2.1⟩ (fun hS_ HT_ HW_ => ?_)
   refine rL 0 1 (N := some 12) (v := ?_) (a' := ?_) HT_ HW_ rfl rfl rfl (by kernel_rfl) (fun _ _ _ h => h) hS_ (by rfl) ?_ ?_ ?_; rotate_left 2; (rintro w' ⟨s0, s1, s2, -⟩; go_simp; with_reducible rfl); (simp only [Act.put, List.setIfInBounds_toArray, List.set_cons_zero, List.set_cons_succ, i64_w, i32_w]; rfl)
   refine rL 1 2 (N := some 13) (v := ?_) (a' := ?_) HT_ HW_ rfl rfl rfl (by kernel_rfl) (fun _ _ _ h => h) hS_ (by rfl) ?_ ?_ ?_; rotate_left 2; (rintro w' ⟨s0, s1, s2, -⟩; go_simp; with_reducible rfl); (simp only [Act.put, List.setIfInBounds_toArray, List.set_cons_zero, List.set_cons_succ, i64_w, i32_w]; rfl)
   refine rL 2 3 (N := some 14) (v := ?_) (a' := ?_) HT_ HW_ rfl rfl rfl (by kernel_rfl) (fun _ _ _ h => h) hS_ (by rfl) ?_ ?_ ?_; rotate_left 2; (rintro w' ⟨s0, s1, s2, -⟩; go_simp; with_reducible rfl); (simp only [Act.put, List.setIfInBounds_toArray, List.set_cons_zero, List.set_cons_succ, i64_w, i32_w]; rfl)
   refine one_ (i := 3) (N := some 15) (upR 44 4) rfl rfl (one_of HT_.out (by kernel_rfl)) (by decide) (fun K hK => ?_)
   refine goes_ Try.func77 (by kernel_rfl) rfl #[.slice (some ad) l.length c] (by rfl) rfl rfl (by (try simp only [List.map_toArray, List.map_cons, List.map_nil]); first | done | rfl) ?_
   refine (keyLength_any _ _ l _ (Kd.C_below (Kd.C_below HR.out HB.out) HBW.out) HCAP.out (by omega)).mono ?_
   rintro e w' ⟨rfl, hb_⟩
   refine ⟨_, rfl, ?_⟩
   have n_ := Aside0.mk (below_then HBW.out HBW.out.size hb_); clear HBW hb_; have HBW := n_; clear n_
   refine hK.out _ _ ⟨(cells3_ (blk_below HA.out HBW.out)).1, (cells3_ (blk_below HA.out HBW.out)).2.1, (cells3_ (blk_below HA.out HBW.out)).2.2, fun h => pw_cell_below HBW.out (hP1.out h).2.2.1⟩ (fun hS_ => ?_)
   clear hK K
   refine norm_ (a' := ?_) ?_ ?_
   rotate_left
   (simp only [Act.put, List.setIfInBounds_toArray, List.set_cons_zero, List.set_cons_succ, i64_w, i32_w]; rfl)
   cases b1 : rowOfB y.f0.f0 (key0 l) with
   | false =>
    refine one_ (i := 4) (N := some 16) (upR 44 5) rfl rfl (one_of HT_.out (by kernel_rfl)) (by decide) (fun K hK => ?_)
    refine goes_ Try.func76 (by kernel_rfl) rfl #[.agg #[.slice A0_ y.f0.f0.length c0_], .int .i64 (key0 l)] (by rfl) rfl rfl (by (try simp only [List.map_toArray, List.map_cons, List.map_nil]); first | done | rfl) ?_
    refine (isRowOf_any _ _ _ _ _ (Kd.C_below HCy.out HBW.out) HC.out.1 b1).mono ?_
    rintro e w' ⟨rfl, hb_⟩
    refine ⟨_, rfl, ?_⟩
    have n_ := Aside0.mk (below_then HBW.out HBW.out.size hb_); clear HBW hb_; have HBW := n_; clear n_
    refine hK.out _ _ ⟨(cells3_ (blk_below HA.out HBW.out)).1, (cells3_ (blk_below HA.out HBW.out)).2.1, (cells3_ (blk_below HA.out HBW.out)).2.2, fun h => pw_cell_below HBW.out (hP1.out h).2.2.1⟩ (fun hS_ => ?_)
    clear hK K
    refine norm_ (a' := ?_) ?_ ?_
    rotate_left
    (simp only [Act.put, List.setIfInBounds_toArray, List.set_cons_zero, List.set_cons_succ, i64_w, i32_w]; rfl)
    refine rL 5 6 (N := some 17) (v := ?_) (a' := ?_) HT_ HW_ rfl rfl rfl (by kernel_rfl) (fun _ _ _ h => h) hS_ (by rfl) ?_ ?_ ?_; rotate_left 2; (rintro w' ⟨s0, s1, s2, -⟩; go_simp; with_reducible rfl); (simp only [Act.put, List.setIfInBounds_toArray, List.set_cons_zero, List.set_cons_succ, i64_w, i32_w]; rfl)
    refine rL 6 7 (N := some 18) (v := ?_) (a' := ?_) HT_ HW_ rfl rfl rfl (by kernel_rfl) (fun _ _ _ h => h) hS_ (by rfl) ?_ ?_ ?_; rotate_left 2; (rintro w' ⟨s0, s1, s2, -⟩; go_simp; with_reducible rfl); (simp only [Act.put, List.setIfInBounds_toArray, List.set_cons_zero, List.set_cons_succ, i64_w, i32_w]; rfl)
    refine rU 7 8 (N := some 19) (a' := ?_) HT_ HW_ rfl rfl rfl (by kernel_rfl) (fun _ _ _ h => h) hS_ (by rfl) ?_ ?_; rotate_left; (simp only [Act.put, List.setIfInBounds_toArray, List.set_cons_zero, List.set_cons_succ, i64_w, i32_w]; rfl)
    refine rU 8 9 (N := some 20) (a' := ?_) HT_ HW_ rfl rfl rfl (by kernel_rfl) (fun _ _ _ h => h) hS_ (by rfl) ?_ ?_; rotate_left; (simp only [Act.put, List.setIfInBounds_toArray, List.set_cons_zero, List.set_cons_succ, i64_w, i32_w]; rfl)
    refine rU 9 10 (N := some 21) (a' := ?_) HT_ HW_ rfl rfl rfl (by kernel_rfl) (fun _ _ _ h => h) hS_ (by rfl) ?_ ?_; rotate_left; (simp only [Act.put, List.setIfInBounds_toArray, List.set_cons_zero, List.set_cons_succ, i64_w, i32_w]; rfl)
    refine rU 10 11 (N := some 22) (a' := ?_) HT_ HW_ rfl rfl rfl (by kernel_rfl) (fun _ _ _ h => h) hS_ (by rfl) ?_ ?_; rotate_left; (simp only [Act.put, List.setIfInBounds_toArray, List.set_cons_zero, List.set_cons_succ, i64_w, i32_w]; rfl)
    refine rL 11 12 (N := some 23) (v := ?_) (a' := ?_) HT_ HW_ rfl rfl rfl (by kernel_rfl) (fun _ _ _ h => h) hS_ (by rfl) ?_ ?_ ?_; rotate_left 2; (rintro w' ⟨s0, s1, s2, -⟩; go_simp; with_reducible rfl); (simp only [Act.put, List.setIfInBounds_toArray, List.set_cons_zero, List.set_cons_succ, i64_w, i32_w]; rfl)
    refine rL 12 13 (N := some 24) (v := ?_) (a' := ?_) HT_ HW_ rfl rfl rfl (by kernel_rfl) (fun _ _ _ h => h) hS_ (by rfl) ?_ ?_ ?_; rotate_left 2; (rintro w' ⟨s0, s1, s2, -⟩; go_simp; with_reducible rfl); (simp only [Act.put, List.setIfInBounds_toArray, List.set_cons_zero, List.set_cons_succ, i64_w, i32_w]; rfl)
    refine rU 13 14 (N := some 25) (a' := ?_) HT_ HW_ rfl rfl rfl (by kernel_rfl) (fun _ _ _ h => h) hS_ (by rfl) ?_ ?_; rotate_left; (simp only [Act.put, List.setIfInBounds_toArray, List.set_cons_zero, List.set_cons_succ, i64_w, i32_w]; rfl)
    refine rU 14 15 (N := some 26) (a' := ?_) HT_ HW_ rfl rfl rfl (by kernel_rfl) (fun _ _ _ h => h) hS_ (by rfl) ?_ ?_; rotate_left; (simp only [Act.put, List.setIfInBounds_toArray, List.set_cons_zero, List.set_cons_succ, i64_w, i32_w]; rfl)
    refine rU 15 16 (N := some 27) (a' := ?_) HT_ HW_ rfl rfl rfl (by kernel_rfl) (fun _ _ _ h => h) hS_ (by rfl) ?_ ?_; rotate_left; (simp only [Act.put, List.setIfInBounds_toArray, List.set_cons_zero, List.set_cons_succ, i64_w, i32_w]; rfl)
    refine rU 16 17 (N := some 28) (a' := ?_) HT_ HW_ rfl rfl rfl (by kernel_rfl) (fun _ _ _ h => h) hS_ (by rfl) ?_ ?_; rotate_left; (simp only [Act.put, List.setIfInBounds_toArray, List.set_cons_zero, List.set_cons_succ, i64_w, i32_w]; rfl)
    refine rL 17 18 (N := some 29) (v := ?_) (a' := ?_) HT_ HW_ rfl rfl rfl (by kernel_rfl) (fun _ _ _ h => h) hS_ (by rfl) ?_ ?_ ?_; rotate_left 2; (rintro w' ⟨s0, s1, s2, -⟩; go_simp; with_reducible rfl); (simp only [Act.put, List.setIfInBounds_toArray, List.set_cons_zero, List.set_cons_succ, i64_w, i32_w]; rfl)
    refine rL 18 19 (N := some 30) (v := ?_) (a' := ?_) HT_ HW_ rfl rfl rfl (by kernel_rfl) (fun _ _ _ h => h) hS_ (by rfl) ?_ ?_ ?_; rotate_left 2; (rintro w' ⟨s0, s1, s2, -⟩; go_simp; with_reducible rfl); (simp only [Act.put, List.setIfInBounds_toArray, List.set_cons_zero, List.set_cons_succ, i64_w, i32_w]; rfl)
    refine rU 19 20 (N := some 31) (a' := ?_) HT_ HW_ rfl rfl rfl (by kernel_rfl) (fun _ _ _ h => h) hS_ (by rfl) ?_ ?_; rotate_left; (simp only [Act.put, List.setIfInBounds_toArray, List.set_cons_zero, List.set_cons_succ, i64_w, i32_w]; rfl)
    refine rU 20 21 (N := some 32) (a' := ?_) HT_ HW_ rfl rfl rfl (by kernel_rfl) (fun _ _ _ h => h) hS_ (by rfl) ?_ ?_; rotate_left; (simp only [Act.put, List.setIfInBounds_toArray, List.set_cons_zero, List.set_cons_succ, i64_w, i32_w]; rfl)
    refine rU 21 22 (N := some 33) (a' := ?_) HT_ HW_ rfl rfl rfl (by kernel_rfl) (fun _ _ _ h => h) hS_ (by rfl) ?_ ?_; rotate_left; (simp only [Act.put, List.setIfInBounds_toArray, List.set_cons_zero, List.set_cons_succ, i64_w, i32_w]; rfl)
    refine rU 22 23 (N := some 34) (a' := ?_) HT_ HW_ rfl rfl rfl (by kernel_rfl) (fun _ _ _ h => h) hS_ (by rfl) ?_ ?_; rotate_left; (simp only [Act.put, List.setIfInBounds_toArray, List.set_cons_zero, List.set_cons_succ, i64_w, i32_w]; rfl)
    refine rU 23 24 (N := some 35) (a' := ?_) HT_ HW_ rfl rfl rfl (by kernel_rfl) (fun _ _ _ h => h) hS_ (by rfl) ?_ ?_; rotate_left; (simp only [Act.put, List.setIfInBounds_toArray, List.set_cons_zero, List.set_cons_succ, i64_w, i32_w]; rfl)
    refine rU 24 25 (N := some 36) (a' := ?_) HT_ HW_ rfl rfl rfl (by kernel_rfl) (fun _ _ _ h => h) hS_ (by rfl) ?_ ?_; rotate_left; (simp only [Act.put, List.setIfInBounds_toArray, List.set_cons_zero, List.set_cons_succ, i64_w, i32_w]; rfl)
    refine rU 25 26 (N := some 37) (a' := ?_) HT_ HW_ rfl rfl rfl (by kernel_rfl) (fun _ _ _ h => h) hS_ (by rfl) ?_ ?_; rotate_left; (simp only [Act.put, List.setIfInBounds_toArray, List.set_cons_zero, List.set_cons_succ, i64_w, i32_w]; rfl)
    refine rU 26 27 (N := some 38) (a' := ?_) HT_ HW_ rfl rfl rfl (by kernel_rfl) (fun _ _ _ h => h) hS_ (by rfl) ?_ ?_; rotate_left; (simp only [Act.put, List.setIfInBounds_toArray, List.set_cons_zero, List.set_cons_succ, i64_w, i32_w]; rfl)
    refine rL 27 28 (N := some 39) (v := ?_) (a' := ?_) HT_ HW_ rfl rfl rfl (by kernel_rfl) (fun _ _ _ h => h) hS_ (by rfl) ?_ ?_ ?_; rotate_left 2; (rintro w' ⟨s0, s1, s2, -⟩; go_simp; with_reducible rfl); (simp only [Act.put, List.setIfInBounds_toArray, List.set_cons_zero, List.set_cons_succ, i64_w, i32_w]; rfl)
    refine rL 28 29 (N := some 40) (v := ?_) (a' := ?_) HT_ HW_ rfl rfl rfl (by kernel_rfl) (fun _ _ _ h => h) hS_ (by rfl) ?_ ?_ ?_; rotate_left 2; (rintro w' ⟨s0, s1, s2, -⟩; go_simp; with_reducible rfl); (simp only [Act.put, List.setIfInBounds_toArray, List.set_cons_zero, List.set_cons_succ, i64_w, i32_w]; rfl)
    refine rU 29 30 (N := some 41) (a' := ?_) HT_ HW_ rfl rfl rfl (by kernel_rfl) (fun _ _ _ h => h) hS_ (by rfl) ?_ ?_; rotate_left; (simp only [Act.put, List.setIfInBounds_toArray, List.set_cons_zero, List.set_cons_succ, i64_w, i32_w]; rfl)
    refine rU 30 31 (N := some 42) (a' := ?_) HT_ HW_ rfl rfl rfl (by kernel_rfl) (fun _ _ _ h => h) hS_ (by rfl) ?_ ?_; rotate_left; (simp only [Act.put, List.setIfInBounds_toArray, List.set_cons_zero, List.set_cons_succ, i64_w, i32_w]; rfl)
    refine rU 31 32 (N := some 43) (a' := ?_) HT_ HW_ rfl rfl rfl (by kernel_rfl) (fun _ _ _ h => h) hS_ (by rfl) ?_ ?_; rotate_left; (simp only [Act.put, List.setIfInBounds_toArray, List.set_cons_zero, List.set_cons_succ, i64_w, i32_w]; rfl)
    refine rU 32 33 (N := some 44) (a' := ?_) HT_ HW_ rfl rfl rfl (by kernel_rfl) (fun _ _ _ h => h) hS_ (by rfl) ?_ ?_; rotate_left; (simp only [Act.put, List.setIfInBounds_toArray, List.set_cons_zero, List.set_cons_succ, i64_w, i32_w]; rfl)
    refine rU 33 34 (N := some 45) (a' := ?_) HT_ HW_ rfl rfl rfl (by kernel_rfl) (fun _ _ _ h => h) hS_ (by rfl) ?_ ?_; rotate_left; (simp only [Act.put, List.setIfInBounds_toArray, List.set_cons_zero, List.set_cons_succ, i64_w, i32_w]; rfl)
    refine rU 34 35 (N := some 46) (a' := ?_) HT_ HW_ rfl rfl rfl (by kernel_rfl) (fun _ _ _ h => h) hS_ (by rfl) ?_ ?_; rotate_left; (simp only [Act.put, List.setIfInBounds_toArray, List.set_cons_zero, List.set_cons_succ, i64_w, i32_w]; rfl)
    refine rU 35 36 (N := some 47) (a' := ?_) HT_ HW_ rfl rfl rfl (by kernel_rfl) (fun _ _ _ h => h) hS_ (by rfl) ?_ ?_; rotate_left; (simp only [Act.put, List.setIfInBounds_toArray, List.set_cons_zero, List.set_cons_succ, i64_w, i32_w]; rfl)
    refine rU 36 37 (N := some 48) (a' := ?_) HT_ HW_ rfl rfl rfl (by kernel_rfl) (fun _ _ _ h => h) hS_ (by rfl) ?_ ?_; rotate_left; (simp only [Act.put, List.setIfInBounds_toArray, List.set_cons_zero, List.set_cons_succ, i64_w, i32_w]; rfl)
    refine rU 37 38 (N := some 49) (a' := ?_) HT_ HW_ rfl rfl rfl (by kernel_rfl) (fun _ _ _ h => h) hS_ (by rfl) ?_ ?_; rotate_left; (simp only [Act.put, List.setIfInBounds_toArray, List.set_cons_zero, List.set_cons_succ, i64_w, i32_w]; rfl)
    refine rU 38 39 (N := some 50) (a' := ?_) HT_ HW_ rfl rfl rfl (by kernel_rfl) (fun _ _ _ h => h) hS_ (by rfl) ?_ ?_; rotate_left; (simp only [Act.put, List.setIfInBounds_toArray, List.set_cons_zero, List.set_cons_succ, i64_w, i32_w]; rfl)
    refine rU 39 40 (N := some 51) (a' := ?_) HT_ HW_ rfl rfl rfl (by kernel_rfl) (fun _ _ _ h => h) hS_ (by rfl) ?_ ?_; rotate_left; (simp only [Act.put, List.setIfInBounds_toArray, List.set_cons_zero, List.set_cons_succ, i64_w, i32_w]; rfl)
    refine rU 40 41 (N := some 52) (a' := ?_) HT_ HW_ rfl rfl rfl (by kernel_rfl) (fun _ _ _ h => h) hS_ (by rfl) ?_ ?_; rotate_left; (simp only [Act.put, List.setIfInBounds_toArray, List.set_cons_zero, List.set_cons_succ, i64_w, i32_w]; rfl)
    refine rU 41 42 (N := some 53) (a' := ?_) HT_ HW_ rfl rfl rfl (by kernel_rfl) (fun _ _ _ h => h) hS_ (by rfl) ?_ ?_; rotate_left; (simp only [Act.put, List.setIfInBounds_toArray, List.set_cons_zero, List.set_cons_succ, i64_w, i32_w]; rfl)
    refine rU 42 43 (N := some 54) (a' := ?_) HT_ HW_ rfl rfl rfl (by kernel_rfl) (fun _ _ _ h => h) hS_ (by rfl) ?_ ?_; rotate_left; (simp only [Act.put, List.setIfInBounds_toArray, List.set_cons_zero, List.set_cons_succ, i64_w, i32_w]; rfl)
    refine rL 43 44 (N := some 55) (v := ?_) (a' := ?_) HT_ HW_ rfl rfl rfl (by kernel_rfl) (fun _ _ _ h => h) hS_ (by rfl) ?_ ?_ ?_; rotate_left 2; (rintro w' ⟨s0, s1, s2, -⟩; go_simp; with_reducible rfl); (simp only [Act.put, List.setIfInBounds_toArray, List.set_cons_zero, List.set_cons_succ, i64_w, i32_w]; rfl)
    refine rD HT_ (by kernel_rfl) ?_
    go_wp2
    go_ret
    exact ⟨ret_bool_ (goodG_no l kk hlt (by rw [GR.out]; simp [*, zeroB])).symm, (FIN.out _ HBW.out).out⟩
   | true =>
    refine one_ (i := 4) (N := some 16) (upR 44 5) rfl rfl (one_of HT_.out (by kernel_rfl)) (by decide) (fun K hK => ?_)
    refine goes_ Try.func76 (by kernel_rfl) rfl #[.agg #[.slice A0_ y.f0.f0.length c0_], .int .i64 (key0 l)] (by rfl) rfl rfl (by (try simp only [List.map_toArray, List.map_cons, List.map_nil]); first | done | rfl) ?_
    refine (isRowOf_any _ _ _ _ _ (Kd.C_below HCy.out HBW.out) HC.out.1 b1).mono ?_
    rintro e w' ⟨rfl, hb_⟩
    refine ⟨_, rfl, ?_⟩
    have n_ := Aside0.mk (below_then HBW.out HBW.out.size hb_); clear HBW hb_; have HBW := n_; clear n_
    refine hK.out _ _ ⟨(cells3_ (blk_below HA.out HBW.out)).1, (cells3_ (blk_below HA.out HBW.out)).2.1, (cells3_ (blk_below HA.out HBW.out)).2.2, fun h => pw_cell_below HBW.out (hP1.out h).2.2.1⟩ (fun hS_ => ?_)
    clear hK K
    refine norm_ (a' := ?_) ?_ ?_
    rotate_left
    (simp only [Act.put, List.setIfInBounds_toArray, List.set_cons_zero, List.set_cons_succ, i64_w, i32_w]; rfl)
    refine rL 5 6 (N := some 17) (v := ?_) (a' := ?_) HT_ HW_ rfl rfl rfl (by kernel_rfl) (fun _ _ _ h => h) hS_ (by rfl) ?_ ?_ ?_; rotate_left 2; (rintro w' ⟨s0, s1, s2, -⟩; go_simp; with_reducible rfl); (simp only [Act.put, List.setIfInBounds_toArray, List.set_cons_zero, List.set_cons_succ, i64_w, i32_w]; rfl)
    refine rL 6 7 (N := some 18) (v := ?_) (a' := ?_) HT_ HW_ rfl rfl rfl (by kernel_rfl) (fun _ _ _ h => h) hS_ (by rfl) ?_ ?_ ?_; rotate_left 2; (rintro w' ⟨s0, s1, s2, -⟩; go_simp; with_reducible rfl); (simp only [Act.put, List.setIfInBounds_toArray, List.set_cons_zero, List.set_cons_succ, i64_w, i32_w]; rfl)
    refine rL 7 8 (N := some 19) (v := ?_) (a' := ?_) HT_ HW_ rfl rfl rfl (by kernel_rfl) (fun _ _ _ h => h) hS_ (by rfl) ?_ ?_ ?_; rotate_left 2; (rintro w' ⟨s0, s1, s2, -⟩; go_simp; with_reducible rfl); (simp only [Act.put, List.setIfInBounds_toArray, List.set_cons_zero, List.set_cons_succ, i64_w, i32_w]; rfl)
    refine rL 8 9 (N := some 20) (v := ?_) (a' := ?_) HT_ HW_ rfl rfl rfl (by kernel_rfl) (fun _ _ _ h => h) hS_ (by rfl) ?_ ?_ ?_; rotate_left 2; (rintro w' ⟨s0, s1, s2, -⟩; go_simp; with_reducible rfl); (simp only [Act.put, List.setIfInBounds_toArray, List.set_cons_zero, List.set_cons_succ, i64_w, i32_w]; rfl)
    cases b2 : sumB y.f1 with
    | false =>
     refine one_ (i := 9) (N := some 21) (upR 44 10) rfl rfl (one_of HT_.out (by kernel_rfl)) (by decide) (fun K hK => ?_)
     refine goes_ Try.func78 (by kernel_rfl) rfl #[.int .i64 y.f1] (by rfl) rfl rfl (by (try simp only [List.map_toArray, List.map_cons, List.map_nil]); first | done | rfl) ?_
     refine (isSum_any _ _ b2).mono ?_
     rintro e w' ⟨rfl, hb_⟩
     refine ⟨_, rfl, ?_⟩
     have n_ := Aside0.mk (below_then HBW.out HBW.out.size hb_); clear HBW hb_; have HBW := n_; clear n_
     refine hK.out _ _ ⟨(cells3_ (blk_below HA.out HBW.out)).1, (cells3_ (blk_below HA.out HBW.out)).2.1, (cells3_ (blk_below HA.out HBW.out)).2.2, fun h => pw_cell_below HBW.out (hP1.out h).2.2.1⟩ (fun hS_ => ?_)
     clear hK K
     refine norm_ (a' := ?_) ?_ ?_
     rotate_left
     (simp only [Act.put, List.setIfInBounds_toArray, List.set_cons_zero, List.set_cons_succ, i64_w, i32_w]; rfl)
     refine rL 10 11 (N := some 22) (v := ?_) (a' := ?_) HT_ HW_ rfl rfl rfl (by kernel_rfl) (fun _ _ _ h => h) hS_ (by rfl) ?_ ?_ ?_; rotate_left 2; (rintro w' ⟨s0, s1, s2, -⟩; go_simp; with_reducible rfl); (simp only [Act.put, List.setIfInBounds_toArray, List.set_cons_zero, List.set_cons_succ, i64_w, i32_w]; rfl)
     refine rL 11 12 (N := some 23) (v := ?_) (a' := ?_) HT_ HW_ rfl rfl rfl (by kernel_rfl) (fun _ _ _ h => h) hS_ (by rfl) ?_ ?_ ?_; rotate_left 2; (rintro w' ⟨s0, s1, s2, -⟩; go_simp; with_reducible rfl); (simp only [Act.put, List.setIfInBounds_toArray, List.set_cons_zero, List.set_cons_succ, i64_w, i32_w]; rfl)
     refine rL 12 13 (N := some 24) (v := ?_) (a' := ?_) HT_ HW_ rfl rfl rfl (by kernel_rfl) (fun _ _ _ h => h) hS_ (by rfl) ?_ ?_ ?_; rotate_left 2; (rintro w' ⟨s0, s1, s2, -⟩; go_simp; with_reducible rfl); (simp only [Act.put, List.setIfInBounds_toArray, List.set_cons_zero, List.set_cons_succ, i64_w, i32_w]; rfl)
     refine rU 13 14 (N := some 25) (a' := ?_) HT_ HW_ rfl rfl rfl (by kernel_rfl) (fun _ _ _ h => h) hS_ (by rfl) ?_ ?_; rotate_left; (simp only [Act.put, List.setIfInBounds_toArray, List.set_cons_zero, List.set_cons_succ, i64_w, i32_w]; rfl)
     refine rU 14 15 (N := some 26) (a' := ?_) HT_ HW_ rfl rfl rfl (by kernel_rfl) (fun _ _ _ h => h) hS_ (by rfl) ?_ ?_; rotate_left; (simp only [Act.put, List.setIfInBounds_toArray, List.set_cons_zero, List.set_cons_succ, i64_w, i32_w]; rfl)
     refine rU 15 16 (N := some 27) (a' := ?_) HT_ HW_ rfl rfl rfl (by kernel_rfl) (fun _ _ _ h => h) hS_ (by rfl) ?_ ?_; rotate_left; (simp only [Act.put, List.setIfInBounds_toArray, List.set_cons_zero, List.set_cons_succ, i64_w, i32_w]; rfl)
     refine rU 16 17 (N := some 28) (a' := ?_) HT_ HW_ rfl rfl rfl (by kernel_rfl) (fun _ _ _ h => h) hS_ (by rfl) ?_ ?_; rotate_left; (simp only [Act.put, List.setIfInBounds_toArray, List.set_cons_zero, List.set_cons_succ, i64_w, i32_w]; rfl)
     refine rL 17 18 (N := some 29) (v := ?_) (a' := ?_) HT_ HW_ rfl rfl rfl (by kernel_rfl) (fun _ _ _ h => h) hS_ (by rfl) ?_ ?_ ?_; rotate_left 2; (rintro w' ⟨s0, s1, s2, -⟩; go_simp; with_reducible rfl); (simp only [Act.put, List.setIfInBounds_toArray, List.set_cons_zero, List.set_cons_succ, i64_w, i32_w]; rfl)
     refine rL 18 19 (N := some 30) (v := ?_) (a' := ?_) HT_ HW_ rfl rfl rfl (by kernel_rfl) (fun _ _ _ h => h) hS_ (by rfl) ?_ ?_ ?_; rotate_left 2; (rintro w' ⟨s0, s1, s2, -⟩; go_simp; with_reducible rfl); (simp only [Act.put, List.setIfInBounds_toArray, List.set_cons_zero, List.set_cons_succ, i64_w, i32_w]; rfl)
     refine rU 19 20 (N := some 31) (a' := ?_) HT_ HW_ rfl rfl rfl (by kernel_rfl) (fun _ _ _ h => h) hS_ (by rfl) ?_ ?_; rotate_left; (simp only [Act.put, List.setIfInBounds_toArray, List.set_cons_zero, List.set_cons_succ, i64_w, i32_w]; rfl)
     refine rU 20 21 (N := some 32) (a' := ?_) HT_ HW_ rfl rfl rfl (by kernel_rfl) (fun _ _ _ h => h) hS_ (by rfl) ?_ ?_; rotate_left; (simp only [Act.put, List.setIfInBounds_toArray, List.set_cons_zero, List.set_cons_succ, i64_w, i32_w]; rfl)
     refine rU 21 22 (N := some 33) (a' := ?_) HT_ HW_ rfl rfl rfl (by kernel_rfl) (fun _ _ _ h => h) hS_ (by rfl) ?_ ?_; rotate_left; (simp only [Act.put, List.setIfInBounds_toArray, List.set_cons_zero, List.set_cons_succ, i64_w, i32_w]; rfl)
     refine rU 22 23 (N := some 34) (a' := ?_) HT_ HW_ rfl rfl rfl (by kernel_rfl) (fun _ _ _ h => h) hS_ (by rfl) ?_ ?_; rotate_left; (simp only [Act.put, List.setIfInBounds_toArray, List.set_cons_zero, List.set_cons_succ, i64_w, i32_w]; rfl)
     refine rU 23 24 (N := some 35) (a' := ?_) HT_ HW_ rfl rfl rfl (by kernel_rfl) (fun _ _ _ h => h) hS_ (by rfl) ?_ ?_; rotate_left; (simp only [Act.put, List.setIfInBounds_toArray, List.set_cons_zero, List.set_cons_succ, i64_w, i32_w]; rfl)
     refine rU 24 25 (N := some 36) (a' := ?_) HT_ HW_ rfl rfl rfl (by kernel_rfl) (fun _ _ _ h => h) hS_ (by rfl) ?_ ?_; rotate_left; (simp only [Act.put, List.setIfInBounds_toArray, List.set_cons_zero, List.set_cons_succ, i64_w, i32_w]; rfl)
     refine rU 25 26 (N := some 37) (a' := ?_) HT_ HW_ rfl rfl rfl (by kernel_rfl) (fun _ _ _ h => h) hS_ (by rfl) ?_ ?_; rotate_left; (simp only [Act.put, List.setIfInBounds_toArray, List.set_cons_zero, List.set_cons_succ, i64_w, i32_w]; rfl)
     refine rU 26 27 (N := some 38) (a' := ?_) HT_ HW_ rfl rfl rfl (by kernel_rfl) (fun _ _ _ h => h) hS_ (by rfl) ?_ ?_; rotate_left; (simp only [Act.put, List.setIfInBounds_toArray, List.set_cons_zero, List.set_cons_succ, i64_w, i32_w]; rfl)
     refine rL 27 28 (N := some 39) (v := ?_) (a' := ?_) HT_ HW_ rfl rfl rfl (by kernel_rfl) (fun _ _ _ h => h) hS_ (by rfl) ?_ ?_ ?_; rotate_left 2; (rintro w' ⟨s0, s1, s2, -⟩; go_simp; with_reducible rfl); (simp only [Act.put, List.setIfInBounds_toArray, List.set_cons_zero, List.set_cons_succ, i64_w, i32_w]; rfl)
     refine rL 28 29 (N := some 40) (v := ?_) (a' := ?_) HT_ HW_ rfl rfl rfl (by kernel_rfl) (fun _ _ _ h => h) hS_ (by rfl) ?_ ?_ ?_; rotate_left 2; (rintro w' ⟨s0, s1, s2, -⟩; go_simp; with_reducible rfl); (simp only [Act.put, List.setIfInBounds_toArray, List.set_cons_zero, List.set_cons_succ, i64_w, i32_w]; rfl)
     refine rU 29 30 (N := some 41) (a' := ?_) HT_ HW_ rfl rfl rfl (by kernel_rfl) (fun _ _ _ h => h) hS_ (by rfl) ?_ ?_; rotate_left; (simp only [Act.put, List.setIfInBounds_toArray, List.set_cons_zero, List.set_cons_succ, i64_w, i32_w]; rfl)
     refine rU 30 31 (N := some 42) (a' := ?_) HT_ HW_ rfl rfl rfl (by kernel_rfl) (fun _ _ _ h => h) hS_ (by rfl) ?_ ?_; rotate_left; (simp only [Act.put, List.setIfInBounds_toArray, List.set_cons_zero, List.set_cons_succ, i64_w, i32_w]; rfl)
     refine rU 31 32 (N := some 43) (a' := ?_) HT_ HW_ rfl rfl rfl (by kernel_rfl) (fun _ _ _ h => h) hS_ (by rfl) ?_ ?_; rotate_left; (simp only [Act.put, List.setIfInBounds_toArray, List.set_cons_zero, List.set_cons_succ, i64_w, i32_w]; rfl)
     refine rU 32 33 (N := some 44) (a' := ?_) HT_ HW_ rfl rfl rfl (by kernel_rfl) (fun _ _ _ h => h) hS_ (by rfl) ?_ ?_; rotate_left; (simp only [Act.put, List.setIfInBounds_toArray, List.set_cons_zero, List.set_cons_succ, i64_w, i32_w]; rfl)
     refine rU 33 34 (N := some 45) (a' := ?_) HT_ HW_ rfl rfl rfl (by kernel_rfl) (fun _ _ _ h => h) hS_ (by rfl) ?_ ?_; rotate_left; (simp only [Act.put, List.setIfInBounds_toArray, List.set_cons_zero, List.set_cons_succ, i64_w, i32_w]; rfl)
     refine rU 34 35 (N := some 46) (a' := ?_) HT_ HW_ rfl rfl rfl (by kernel_rfl) (fun _ _ _ h => h) hS_ (by rfl) ?_ ?_; rotate_left; (simp only [Act.put, List.setIfInBounds_toArray, List.set_cons_zero, List.set_cons_succ, i64_w, i32_w]; rfl)
     refine rU 35 36 (N := some 47) (a' := ?_) HT_ HW_ rfl rfl rfl (by kernel_rfl) (fun _ _ _ h => h) hS_ (by rfl) ?_ ?_; rotate_left; (simp only [Act.put, List.setIfInBounds_toArray, List.set_cons_zero, List.set_cons_succ, i64_w, i32_w]; rfl)
     refine rU 36 37 (N := some 48) (a' := ?_) HT_ HW_ rfl rfl rfl (by kernel_rfl) (fun _ _ _ h => h) hS_ (by rfl) ?_ ?_; rotate_left; (simp only [Act.put, List.setIfInBounds_toArray, List.set_cons_zero, List.set_cons_succ, i64_w, i32_w]; rfl)
     refine rU 37 38 (N := some 49) (a' := ?_) HT_ HW_ rfl rfl rfl (by kernel_rfl) (fun _ _ _ h => h) hS_ (by rfl) ?_ ?_; rotate_left; (simp only [Act.put, List.setIfInBounds_toArray, List.set_cons_zero, List.set_cons_succ, i64_w, i32_w]; rfl)
     refine rU 38 39 (N := some 50) (a' := ?_) HT_ HW_ rfl rfl rfl (by kernel_rfl) (fun _ _ _ h => h) hS_ (by rfl) ?_ ?_; rotate_left; (simp only [Act.put, List.setIfInBounds_toArray, List.set_cons_zero, List.set_cons_succ, i64_w, i32_w]; rfl)
     refine rU 39 40 (N := some 51) (a' := ?_) HT_ HW_ rfl rfl rfl (by kernel_rfl) (fun _ _ _ h => h) hS_ (by rfl) ?_ ?_; rotate_left; (simp only [Act.put, List.setIfInBounds_toArray, List.set_cons_zero, List.set_cons_succ, i64_w, i32_w]; rfl)
     refine rU 40 41 (N := some 52) (a' := ?_) HT_ HW_ rfl rfl rfl (by kernel_rfl) (fun _ _ _ h => h) hS_ (by rfl) ?_ ?_; rotate_left; (simp only [Act.put, List.setIfInBounds_toArray, List.set_cons_zero, List.set_cons_succ, i64_w, i32_w]; rfl)
     refine rU 41 42 (N := some 53) (a' := ?_) HT_ HW_ rfl rfl rfl (by kernel_rfl) (fun _ _ _ h => h) hS_ (by rfl) ?_ ?_; rotate_left; (simp only [Act.put, List.setIfInBounds_toArray, List.set_cons_zero, List.set_cons_succ, i64_w, i32_w]; rfl)
     refine rU 42 43 (N := some 54) (a' := ?_) HT_ HW_ rfl rfl rfl (by kernel_rfl) (fun _ _ _ h => h) hS_ (by rfl) ?_ ?_; rotate_left; (simp only [Act.put, List.setIfInBounds_toArray, List.set_cons_zero, List.set_cons_succ, i64_w, i32_w]; rfl)
     refine rL 43 44 (N := some 55) (v := ?_) (a' := ?_) HT_ HW_ rfl rfl rfl (by kernel_rfl) (fun _ _ _ h => h) hS_ (by rfl) ?_ ?_ ?_; rotate_left 2; (rintro w' ⟨s0, s1, s2, -⟩; go_simp; with_reducible rfl); (simp only [Act.put, List.setIfInBounds_toArray, List.set_cons_zero, List.set_cons_succ, i64_w, i32_w]; rfl)
     refine rD HT_ (by kernel_rfl) ?_
     go_wp2
     go_ret
     exact ⟨ret_bool_ (goodG_no l kk hlt (by rw [GR.out]; simp [*, zeroB])).symm, (FIN.out _ HBW.out).out⟩
    | true =>
     refine one_ (i := 9) (N := some 21) (upR 44 10) rfl rfl (one_of HT_.out (by kernel_rfl)) (by decide) (fun K hK => ?_)
     refine goes_ Try.func78 (by kernel_rfl) rfl #[.int .i64 y.f1] (by rfl) rfl rfl (by (try simp only [List.map_toArray, List.map_cons, List.map_nil]); first | done | rfl) ?_
     refine (isSum_any _ _ b2).mono ?_
     rintro e w' ⟨rfl, hb_⟩
     refine ⟨_, rfl, ?_⟩
     have n_ := Aside0.mk (below_then HBW.out HBW.out.size hb_); clear HBW hb_; have HBW := n_; clear n_
     refine hK.out _ _ ⟨(cells3_ (blk_below HA.out HBW.out)).1, (cells3_ (blk_below HA.out HBW.out)).2.1, (cells3_ (blk_below HA.out HBW.out)).2.2, fun h => pw_cell_below HBW.out (hP1.out h).2.2.1⟩ (fun hS_ => ?_)
     clear hK K
     refine norm_ (a' := ?_) ?_ ?_
     rotate_left
     (simp only [Act.put, List.setIfInBounds_toArray, List.set_cons_zero, List.set_cons_succ, i64_w, i32_w]; rfl)
     refine rL 10 11 (N := some 22) (v := ?_) (a' := ?_) HT_ HW_ rfl rfl rfl (by kernel_rfl) (fun _ _ _ h => h) hS_ (by rfl) ?_ ?_ ?_; rotate_left 2; (rintro w' ⟨s0, s1, s2, -⟩; go_simp; with_reducible rfl); (simp only [Act.put, List.setIfInBounds_toArray, List.set_cons_zero, List.set_cons_succ, i64_w, i32_w]; rfl)
     refine rL 11 12 (N := some 23) (v := ?_) (a' := ?_) HT_ HW_ rfl rfl rfl (by kernel_rfl) (fun _ _ _ h => h) hS_ (by rfl) ?_ ?_ ?_; rotate_left 2; (rintro w' ⟨s0, s1, s2, -⟩; go_simp; with_reducible rfl); (simp only [Act.put, List.setIfInBounds_toArray, List.set_cons_zero, List.set_cons_succ, i64_w, i32_w]; rfl)
     refine rL 12 13 (N := some 24) (v := ?_) (a' := ?_) HT_ HW_ rfl rfl rfl (by kernel_rfl) (fun _ _ _ h => h) hS_ (by rfl) ?_ ?_ ?_; rotate_left 2; (rintro w' ⟨s0, s1, s2, -⟩; go_simp; with_reducible rfl); (simp only [Act.put, List.setIfInBounds_toArray, List.set_cons_zero, List.set_cons_succ, i64_w, i32_w]; rfl)
     refine rL 13 14 (N := some 25) (v := ?_) (a' := ?_) HT_ HW_ rfl rfl rfl (by kernel_rfl) (fun _ _ _ h => h) hS_ (by rfl) ?_ ?_ ?_; rotate_left 2; (rintro w' ⟨s0, s1, s2, -⟩; go_simp; with_reducible rfl); (simp only [Act.put, List.setIfInBounds_toArray, List.set_cons_zero, List.set_cons_succ, i64_w, i32_w]; rfl)
     refine rL 14 15 (N := some 26) (v := ?_) (a' := ?_) HT_ HW_ rfl rfl rfl (by kernel_rfl) (fun _ _ _ h => h) hS_ (by rfl) ?_ ?_ ?_; rotate_left 2; (rintro w' ⟨s0, s1, s2, -⟩; go_simp; with_reducible rfl); (simp only [Act.put, List.setIfInBounds_toArray, List.set_cons_zero, List.set_cons_succ, i64_w, i32_w]; rfl)
     cases b3 : sumB y.f2 with
     | false =>
      refine one_ (i := 15) (N := some 27) (upR 44 16) rfl rfl (one_of HT_.out (by kernel_rfl)) (by decide) (fun K hK => ?_)
      refine goes_ Try.func78 (by kernel_rfl) rfl #[.int .i64 y.f2] (by rfl) rfl rfl (by (try simp only [List.map_toArray, List.map_cons, List.map_nil]); first | done | rfl) ?_
      refine (isSum_any _ _ b3).mono ?_
      rintro e w' ⟨rfl, hb_⟩
      refine ⟨_, rfl, ?_⟩
      have n_ := Aside0.mk (below_then HBW.out HBW.out.size hb_); clear HBW hb_; have HBW := n_; clear n_
      refine hK.out _ _ ⟨(cells3_ (blk_below HA.out HBW.out)).1, (cells3_ (blk_below HA.out HBW.out)).2.1, (cells3_ (blk_below HA.out HBW.out)).2.2, fun h => pw_cell_below HBW.out (hP1.out h).2.2.1⟩ (fun hS_ => ?_)
      clear hK K
      refine norm_ (a' := ?_) ?_ ?_
      rotate_left
      (simp only [Act.put, List.setIfInBounds_toArray, List.set_cons_zero, List.set_cons_succ, i64_w, i32_w]; rfl)
      refine rL 16 17 (N := some 28) (v := ?_) (a' := ?_) HT_ HW_ rfl rfl rfl (by kernel_rfl) (fun _ _ _ h => h) hS_ (by rfl) ?_ ?_ ?_; rotate_left 2; (rintro w' ⟨s0, s1, s2, -⟩; go_simp; with_reducible rfl); (simp only [Act.put, List.setIfInBounds_toArray, List.set_cons_zero, List.set_cons_succ, i64_w, i32_w]; rfl)
      refine rL 17 18 (N := some 29) (v := ?_) (a' := ?_) HT_ HW_ rfl rfl rfl (by kernel_rfl) (fun _ _ _ h => h) hS_ (by rfl) ?_ ?_ ?_; rotate_left 2; (rintro w' ⟨s0, s1, s2, -⟩; go_simp; with_reducible rfl); (simp only [Act.put, List.setIfInBounds_toArray, List.set_cons_zero, List.set_cons_succ, i64_w, i32_w]; rfl)
      refine rL 18 19 (N := some 30) (v := ?_) (a' := ?_) HT_ HW_ rfl rfl rfl (by kernel_rfl) (fun _ _ _ h => h) hS_ (by rfl) ?_ ?_ ?_; rotate_left 2; (rintro w' ⟨s0, s1, s2, -⟩; go_simp; with_reducible rfl); (simp only [Act.put, List.setIfInBounds_toArray, List.set_cons_zero, List.set_cons_succ, i64_w, i32_w]; rfl)
      refine rU 19 20 (N := some 31) (a' := ?_) HT_ HW_ rfl rfl rfl (by kernel_rfl) (fun _ _ _ h => h) hS_ (by rfl) ?_ ?_; rotate_left; (simp only [Act.put, List.setIfInBounds_toArray, List.set_cons_zero, List.set_cons_succ, i64_w, i32_w]; rfl)
      refine rU 20 21 (N := some 32) (a' := ?_) HT_ HW_ rfl rfl rfl (by kernel_rfl) (fun _ _ _ h => h) hS_ (by rfl) ?_ ?_; rotate_left; (simp only [Act.put, List.setIfInBounds_toArray, List.set_cons_zero, List.set_cons_succ, i64_w, i32_w]; rfl)
      refine rU 21 22 (N := some 33) (a' := ?_) HT_ HW_ rfl rfl rfl (by kernel_rfl) (fun _ _ _ h => h) hS_ (by rfl) ?_ ?_; rotate_left; (simp only [Act.put, List.setIfInBounds_toArray, List.set_cons_zero, List.set_cons_succ, i64_w, i32_w]; rfl)
      refine rU 22 23 (N := some 34) (a' := ?_) HT_ HW_ rfl rfl rfl (by kernel_rfl) (fun _ _ _ h => h) hS_ (by rfl) ?_ ?_; rotate_left; (simp only [Act.put, List.setIfInBounds_toArray, List.set_cons_zero, List.set_cons_succ, i64_w, i32_w]; rfl)
      refine rU 23 24 (N := some 35) (a' := ?_) HT_ HW_ rfl rfl rfl (by kernel_rfl) (fun _ _ _ h => h) hS_ (by rfl) ?_ ?_; rotate_left; (simp only [Act.put, List.setIfInBounds_toArray, List.set_cons_zero, List.set_cons_succ, i64_w, i32_w]; rfl)
      refine rU 24 25 (N := some 36) (a' := ?_) HT_ HW_ rfl rfl rfl (by kernel_rfl) (fun _ _ _ h => h) hS_ (by rfl) ?_ ?_; rotate_left; (simp only [Act.put, List.setIfInBounds_toArray, List.set_cons_zero, List.set_cons_succ, i64_w, i32_w]; rfl)
      refine rU 25 26 (N := some 37) (a' := ?_) HT_ HW_ rfl rfl rfl (by kernel_rfl) (fun _ _ _ h => h) hS_ (by rfl) ?_ ?_; rotate_left; (simp only [Act.put, List.setIfInBounds_toArray, List.set_cons_zero, List.set_cons_succ, i64_w, i32_w]; rfl)
      refine rU 26 27 (N := some 38) (a' := ?_) HT_ HW_ rfl rfl rfl (by kernel_rfl) (fun _ _ _ h => h) hS_ (by rfl) ?_ ?_; rotate_left; (simp only [Act.put, List.setIfInBounds_toArray, List.set_cons_zero, List.set_cons_succ, i64_w, i32_w]; rfl)
      refine rL 27 28 (N := some 39) (v := ?_) (a' := ?_) HT_ HW_ rfl rfl rfl (by kernel_rfl) (fun _ _ _ h => h) hS_ (by rfl) ?_ ?_ ?_; rotate_left 2; (rintro w' ⟨s0, s1, s2, -⟩; go_simp; with_reducible rfl); (simp only [Act.put, List.setIfInBounds_toArray, List.set_cons_zero, List.set_cons_succ, i64_w, i32_w]; rfl)
      refine rL 28 29 (N := some 40) (v := ?_) (a' := ?_) HT_ HW_ rfl rfl rfl (by kernel_rfl) (fun _ _ _ h => h) hS_ (by rfl) ?_ ?_ ?_; rotate_left 2; (rintro w' ⟨s0, s1, s2, -⟩; go_simp; with_reducible rfl); (simp only [Act.put, List.setIfInBounds_toArray, List.set_cons_zero, List.set_cons_succ, i64_w, i32_w]; rfl)
      refine rU 29 30 (N := some 41) (a' := ?_) HT_ HW_ rfl rfl rfl (by kernel_rfl) (fun _ _ _ h => h) hS_ (by rfl) ?_ ?_; rotate_left; (simp only [Act.put, List.setIfInBounds_toArray, List.set_cons_zero, List.set_cons_succ, i64_w, i32_w]; rfl)
      refine rU 30 31 (N := some 42) (a' := ?_) HT_ HW_ rfl rfl rfl (by kernel_rfl) (fun _ _ _ h => h) hS_ (by rfl) ?_ ?_; rotate_left; (simp only [Act.put, List.setIfInBounds_toArray, List.set_cons_zero, List.set_cons_succ, i64_w, i32_w]; rfl)
      refine rU 31 32 (N := some 43) (a' := ?_) HT_ HW_ rfl rfl rfl (by kernel_rfl) (fun _ _ _ h => h) hS_ (by rfl) ?_ ?_; rotate_left; (simp only [Act.put, List.setIfInBounds_toArray, List.set_cons_zero, List.set_cons_succ, i64_w, i32_w]; rfl)
      refine rU 32 33 (N := some 44) (a' := ?_) HT_ HW_ rfl rfl rfl (by kernel_rfl) (fun _ _ _ h => h) hS_ (by rfl) ?_ ?_; rotate_left; (simp only [Act.put, List.setIfInBounds_toArray, List.set_cons_zero, List.set_cons_succ, i64_w, i32_w]; rfl)
      refine rU 33 34 (N := some 45) (a' := ?_) HT_ HW_ rfl rfl rfl (by kernel_rfl) (fun _ _ _ h => h) hS_ (by rfl) ?_ ?_; rotate_left; (simp only [Act.put, List.setIfInBounds_toArray, List.set_cons_zero, List.set_cons_succ, i64_w, i32_w]; rfl)
      refine rU 34 35 (N := some 46) (a' := ?_) HT_ HW_ rfl rfl rfl (by kernel_rfl) (fun _ _ _ h => h) hS_ (by rfl) ?_ ?_; rotate_left; (simp only [Act.put, List.setIfInBounds_toArray, List.set_cons_zero, List.set_cons_succ, i64_w, i32_w]; rfl)
      refine rU 35 36 (N := some 47) (a' := ?_) HT_ HW_ rfl rfl rfl (by kernel_rfl) (fun _ _ _ h => h) hS_ (by rfl) ?_ ?_; rotate_left; (simp only [Act.put, List.setIfInBounds_toArray, List.set_cons_zero, List.set_cons_succ, i64_w, i32_w]; rfl)
      refine rU 36 37 (N := some 48) (a' := ?_) HT_ HW_ rfl rfl rfl (by kernel_rfl) (fun _ _ _ h => h) hS_ (by rfl) ?_ ?_; rotate_left; (simp only [Act.put, List.setIfInBounds_toArray, List.set_cons_zero, List.set_cons_succ, i64_w, i32_w]; rfl)
      refine rU 37 38 (N := some 49) (a' := ?_) HT_ HW_ rfl rfl rfl (by kernel_rfl) (fun _ _ _ h => h) hS_ (by rfl) ?_ ?_; rotate_left; (simp only [Act.put, List.setIfInBounds_toArray, List.set_cons_zero, List.set_cons_succ, i64_w, i32_w]; rfl)
      refine rU 38 39 (N := some 50) (a' := ?_) HT_ HW_ rfl rfl rfl (by kernel_rfl) (fun _ _ _ h => h) hS_ (by rfl) ?_ ?_; rotate_left; (simp only [Act.put, List.setIfInBounds_toArray, List.set_cons_zero, List.set_cons_succ, i64_w, i32_w]; rfl)
      refine rU 39 40 (N := some 51) (a' := ?_) HT_ HW_ rfl rfl rfl (by kernel_rfl) (fun _ _ _ h => h) hS_ (by rfl) ?_ ?_; rotate_left; (simp only [Act.put, List.setIfInBounds_toArray, List.set_cons_zero, List.set_cons_succ, i64_w, i32_w]; rfl)
      refine rU 40 41 (N := some 52) (a' := ?_) HT_ HW_ rfl rfl rfl (by kernel_rfl) (fun _ _ _ h => h) hS_ (by rfl) ?_ ?_; rotate_left; (simp only [Act.put, List.setIfInBounds_toArray, List.set_cons_zero, List.set_cons_succ, i64_w, i32_w]; rfl)
      refine rU 41 42 (N := some 53) (a' := ?_) HT_ HW_ rfl rfl rfl (by kernel_rfl) (fun _ _ _ h => h) hS_ (by rfl) ?_ ?_; rotate_left; (simp only [Act.put, List.setIfInBounds_toArray, List.set_cons_zero, List.set_cons_succ, i64_w, i32_w]; rfl)
      refine rU 42 43 (N := some 54) (a' := ?_) HT_ HW_ rfl rfl rfl (by kernel_rfl) (fun _ _ _ h => h) hS_ (by rfl) ?_ ?_; rotate_left; (simp only [Act.put, List.setIfInBounds_toArray, List.set_cons_zero, List.set_cons_succ, i64_w, i32_w]; rfl)
      refine rL 43 44 (N := some 55) (v := ?_) (a' := ?_) HT_ HW_ rfl rfl rfl (by kernel_rfl) (fun _ _ _ h => h) hS_ (by rfl) ?_ ?_ ?_; rotate_left 2; (rintro w' ⟨s0, s1, s2, -⟩; go_simp; with_reducible rfl); (simp only [Act.put, List.setIfInBounds_toArray, List.set_cons_zero, List.set_cons_succ, i64_w, i32_w]; rfl)
      refine rD HT_ (by kernel_rfl) ?_
      go_wp2
      go_ret
      exact ⟨ret_bool_ (goodG_no l kk hlt (by rw [GR.out]; simp [*, zeroB])).symm, (FIN.out _ HBW.out).out⟩
     | true =>
      refine one_ (i := 15) (N := some 27) (upR 44 16) rfl rfl (one_of HT_.out (by kernel_rfl)) (by decide) (fun K hK => ?_)
      refine goes_ Try.func78 (by kernel_rfl) rfl #[.int .i64 y.f2] (by rfl) rfl rfl (by (try simp only [List.map_toArray, List.map_cons, List.map_nil]); first | done | rfl) ?_
      refine (isSum_any _ _ b3).mono ?_
      rintro e w' ⟨rfl, hb_⟩
      refine ⟨_, rfl, ?_⟩
      have n_ := Aside0.mk (below_then HBW.out HBW.out.size hb_); clear HBW hb_; have HBW := n_; clear n_
      refine hK.out _ _ ⟨(cells3_ (blk_below HA.out HBW.out)).1, (cells3_ (blk_below HA.out HBW.out)).2.1, (cells3_ (blk_below HA.out HBW.out)).2.2, fun h => pw_cell_below HBW.out (hP1.out h).2.2.1⟩ (fun hS_ => ?_)
      clear hK K
      refine norm_ (a' := ?_) ?_ ?_
      rotate_left
      (simp only [Act.put, List.setIfInBounds_toArray, List.set_cons_zero, List.set_cons_succ, i64_w, i32_w]; rfl)
      refine rL 16 17 (N := some 28) (v := ?_) (a' := ?_) HT_ HW_ rfl rfl rfl (by kernel_rfl) (fun _ _ _ h => h) hS_ (by rfl) ?_ ?_ ?_; rotate_left 2; (rintro w' ⟨s0, s1, s2, -⟩; go_simp; with_reducible rfl); (simp only [Act.put, List.setIfInBounds_toArray, List.set_cons_zero, List.set_cons_succ, i64_w, i32_w]; rfl)
      refine rL 17 18 (N := some 29) (v := ?_) (a' := ?_) HT_ HW_ rfl rfl rfl (by kernel_rfl) (fun _ _ _ h => h) hS_ (by rfl) ?_ ?_ ?_; rotate_left 2; (rintro w' ⟨s0, s1, s2, -⟩; go_simp; with_reducible rfl); (simp only [Act.put, List.setIfInBounds_toArray, List.set_cons_zero, List.set_cons_succ, i64_w, i32_w]; rfl)
      refine rL 18 19 (N := some 30) (v := ?_) (a' := ?_) HT_ HW_ rfl rfl rfl (by kernel_rfl) (fun _ _ _ h => h) hS_ (by rfl) ?_ ?_ ?_; rotate_left 2; (rintro w' ⟨s0, s1, s2, -⟩; go_simp; with_reducible rfl); (simp only [Act.put, List.setIfInBounds_toArray, List.set_cons_zero, List.set_cons_succ, i64_w, i32_w]; rfl)
      refine rL 19 20 (N := some 31) (v := ?_) (a' := ?_) HT_ HW_ rfl rfl rfl (by kernel_rfl) (fun _ _ _ h => h) hS_ (by rfl) ?_ ?_ ?_; rotate_left 2; (rintro w' ⟨s0, s1, s2, -⟩; go_simp; with_reducible rfl); (simp only [Act.put, List.setIfInBounds_toArray, List.set_cons_zero, List.set_cons_succ, i64_w, i32_w]; rfl)
      refine rL 20 21 (N := some 32) (v := ?_) (a' := ?_) HT_ HW_ rfl rfl rfl (by kernel_rfl) (fun _ _ _ h => h) hS_ (by rfl) ?_ ?_ ?_; rotate_left 2; (rintro w' ⟨s0, s1, s2, -⟩; go_simp; with_reducible rfl); (simp only [Act.put, List.setIfInBounds_toArray, List.set_cons_zero, List.set_cons_succ, i64_w, i32_w]; rfl)
      by_cases hz1 : y.f1 = 0
      ·have z1 : (y.f1 == 0) = true := by simp [hz1]
       have HZ1 := Aside0.mk hz1; clear hz1
       refine rL 21 22 (N := some 33) (v := ?_) (a' := ?_) HT_ HW_ rfl rfl rfl (by kernel_rfl) (fun _ _ _ h => h) hS_ (by rfl) ?_ ?_ ?_; rotate_left 2; (rintro w' ⟨s0, s1, s2, -⟩; go_simp; with_reducible rfl); (simp only [Act.put, List.setIfInBounds_toArray, List.set_cons_zero, List.set_cons_succ, i64_w, i32_w]; rfl)
       refine rL 22 23 (N := some 34) (v := ?_) (a' := ?_) HT_ HW_ rfl rfl rfl (by kernel_rfl) (fun _ _ _ h => h) hS_ (by rfl) ?_ ?_ ?_; rotate_left 2; (rintro w' ⟨s0, s1, s2, -⟩; go_simp; with_reducible rfl); (simp only [Act.put, List.setIfInBounds_toArray, List.set_cons_zero, List.set_cons_succ, i64_w, i32_w]; rfl)
       refine rL 23 24 (N := some 35) (v := ?_) (a' := ?_) HT_ HW_ rfl rfl rfl (by kernel_rfl) (fun _ _ _ h => h) hS_ (by rfl) ?_ ?_ ?_; rotate_left 2; (rintro w' ⟨s0, s1, s2, -⟩; go_simp; with_reducible rfl); (simp only [Act.put, List.setIfInBounds_toArray, List.set_cons_zero, List.set_cons_succ, i64_w, i32_w]; rfl)
       refine rL 24 25 (N := some 36) (v := ?_) (a' := ?_) HT_ HW_ rfl rfl rfl (by kernel_rfl) (fun _ _ _ h => h) hS_ (by rfl) ?_ ?_ ?_; rotate_left 2; (rintro w' ⟨s0, s1, s2, -⟩; go_simp; with_reducible rfl); (simp only [Act.put, List.setIfInBounds_toArray, List.set_cons_zero, List.set_cons_succ, i64_w, i32_w]; rfl)
       by_cases hz2 : y.f2 = 0
       ·have z2 : (y.f2 == 0) = true := by simp [hz2]
        have HZ2 := Aside0.mk hz2; clear hz2
        refine rL 25 26 (N := some 37) (v := ?_) (a' := ?_) HT_ HW_ rfl rfl rfl (by kernel_rfl) (fun _ _ _ h => h) hS_ (by rfl) ?_ ?_ ?_; rotate_left 2; (rintro w' ⟨s0, s1, s2, -⟩; go_simp; with_reducible rfl); (simp only [Act.put, List.setIfInBounds_toArray, List.set_cons_zero, List.set_cons_succ, i64_w, i32_w]; rfl)
        refine rL 26 27 (N := some 38) (v := ?_) (a' := ?_) HT_ HW_ rfl rfl rfl (by kernel_rfl) (fun _ _ _ h => h) hS_ (by rfl) ?_ ?_ ?_; rotate_left 2; (rintro w' ⟨s0, s1, s2, -⟩; go_simp; with_reducible rfl); (simp only [Act.put, List.setIfInBounds_toArray, List.set_cons_zero, List.set_cons_succ, i64_w, i32_w]; rfl)
        refine rL 27 28 (N := some 39) (v := ?_) (a' := ?_) HT_ HW_ rfl rfl rfl (by kernel_rfl) (fun _ _ _ h => h) hS_ (by rfl) ?_ ?_ ?_; rotate_left 2; (rintro w' ⟨s0, s1, s2, -⟩; go_simp; with_reducible rfl); (simp only [Act.put, List.setIfInBounds_toArray, List.set_cons_zero, List.set_cons_succ, i64_w, i32_w]; rfl)
        refine rL 28 29 (N := some 40) (v := ?_) (a' := ?_) HT_ HW_ rfl rfl rfl (by kernel_rfl) (fun _ _ _ h => h) hS_ (by rfl) ?_ ?_ ?_; rotate_left 2; (rintro w' ⟨s0, s1, s2, -⟩; go_simp; with_reducible rfl); (simp only [Act.put, List.setIfInBounds_toArray, List.set_cons_zero, List.set_cons_succ, i64_w, i32_w]; rfl)
        refine rU 29 30 (N := some 41) (a' := ?_) HT_ HW_ rfl rfl rfl (by kernel_rfl) (fun _ _ _ h => h) hS_ (by rfl) ?_ ?_; rotate_left; (simp only [Act.put, List.setIfInBounds_toArray, List.set_cons_zero, List.set_cons_succ, i64_w, i32_w]; rfl)
        refine rU 30 31 (N := some 42) (a' := ?_) HT_ HW_ rfl rfl rfl (by kernel_rfl) (fun _ _ _ h => h) hS_ (by rfl) ?_ ?_; rotate_left; (simp only [Act.put, List.setIfInBounds_toArray, List.set_cons_zero, List.set_cons_succ, i64_w, i32_w]; rfl)
        refine rU 31 32 (N := some 43) (a' := ?_) HT_ HW_ rfl rfl rfl (by kernel_rfl) (fun _ _ _ h => h) hS_ (by rfl) ?_ ?_; rotate_left; (simp only [Act.put, List.setIfInBounds_toArray, List.set_cons_zero, List.set_cons_succ, i64_w, i32_w]; rfl)
        refine rU 32 33 (N := some 44) (a' := ?_) HT_ HW_ rfl rfl rfl (by kernel_rfl) (fun _ _ _ h => h) hS_ (by rfl) ?_ ?_; rotate_left; (simp only [Act.put, List.setIfInBounds_toArray, List.set_cons_zero, List.set_cons_succ, i64_w, i32_w]; rfl)
        refine rU 33 34 (N := some 45) (a' := ?_) HT_ HW_ rfl rfl rfl (by kernel_rfl) (fun _ _ _ h => h) hS_ (by rfl) ?_ ?_; rotate_left; (simp only [Act.put, List.setIfInBounds_toArray, List.set_cons_zero, List.set_cons_succ, i64_w, i32_w]; rfl)
        refine rU 34 35 (N := some 46) (a' := ?_) HT_ HW_ rfl rfl rfl (by kernel_rfl) (fun _ _ _ h => h) hS_ (by rfl) ?_ ?_; rotate_left; (simp only [Act.put, List.setIfInBounds_toArray, List.set_cons_zero, List.set_cons_succ, i64_w, i32_w]; rfl)
        refine rU 35 36 (N := some 47) (a' := ?_) HT_ HW_ rfl rfl rfl (by kernel_rfl) (fun _ _ _ h => h) hS_ (by rfl) ?_ ?_; rotate_left; (simp only [Act.put, List.setIfInBounds_toArray, List.set_cons_zero, List.set_cons_succ, i64_w, i32_w]; rfl)
        refine rU 36 37 (N := some 48) (a' := ?_) HT_ HW_ rfl rfl rfl (by kernel_rfl) (fun _ _ _ h => h) hS_ (by rfl) ?_ ?_; rotate_left; (simp only [Act.put, List.setIfInBounds_toArray, List.set_cons_zero, List.set_cons_succ, i64_w, i32_w]; rfl)
        refine rU 37 38 (N := some 49) (a' := ?_) HT_ HW_ rfl rfl rfl (by kernel_rfl) (fun _ _ _ h => h) hS_ (by rfl) ?_ ?_; rotate_left; (simp only [Act.put, List.setIfInBounds_toArray, List.set_cons_zero, List.set_cons_succ, i64_w, i32_w]; rfl)
        refine rU 38 39 (N := some 50) (a' := ?_) HT_ HW_ rfl rfl rfl (by kernel_rfl) (fun _ _ _ h => h) hS_ (by rfl) ?_ ?_; rotate_left; (simp only [Act.put, List.setIfInBounds_toArray, List.set_cons_zero, List.set_cons_succ, i64_w, i32_w]; rfl)
        refine rU 39 40 (N := some 51) (a' := ?_) HT_ HW_ rfl rfl rfl (by kernel_rfl) (fun _ _ _ h => h) hS_ (by rfl) ?_ ?_; rotate_left; (simp only [Act.put, List.setIfInBounds_toArray, List.set_cons_zero, List.set_cons_succ, i64_w, i32_w]; rfl)
        refine rU 40 41 (N := some 52) (a' := ?_) HT_ HW_ rfl rfl rfl (by kernel_rfl) (fun _ _ _ h => h) hS_ (by rfl) ?_ ?_; rotate_left; (simp only [Act.put, List.setIfInBounds_toArray, List.set_cons_zero, List.set_cons_succ, i64_w, i32_w]; rfl)
        refine rU 41 42 (N := some 53) (a' := ?_) HT_ HW_ rfl rfl rfl (by kernel_rfl) (fun _ _ _ h => h) hS_ (by rfl) ?_ ?_; rotate_left; (simp only [Act.put, List.setIfInBounds_toArray, List.set_cons_zero, List.set_cons_succ, i64_w, i32_w]; rfl)
        refine rU 42 43 (N := some 54) (a' := ?_) HT_ HW_ rfl rfl rfl (by kernel_rfl) (fun _ _ _ h => h) hS_ (by rfl) ?_ ?_; rotate_left; (simp only [Act.put, List.setIfInBounds_toArray, List.set_cons_zero, List.set_cons_succ, i64_w, i32_w]; rfl)
        refine rL 43 44 (N := some 55) (v := ?_) (a' := ?_) HT_ HW_ rfl rfl rfl (by kernel_rfl) (fun _ _ _ h => h) hS_ (by rfl) ?_ ?_ ?_; rotate_left 2; (rintro w' ⟨s0, s1, s2, -⟩; go_simp; with_reducible rfl); (simp only [Act.put, List.setIfInBounds_toArray, List.set_cons_zero, List.set_cons_succ, i64_w, i32_w]; rfl)
        refine rD HT_ (by kernel_rfl) ?_
        go_wp2
        go_ret
        exact ⟨ret_bool_ (goodG_no l kk hlt (by rw [GR.out]; simp [*, zeroB, HZ1.out, HZ2.out])).symm, (FIN.out _ HBW.out).out⟩
       ·have z2 : (y.f2 == 0) = false := by simp [hz2]
        refine rL 25 26 (N := some 37) (v := ?_) (a' := ?_) HT_ HW_ rfl rfl rfl (by kernel_rfl) (fun _ _ _ h => h) hS_ (by rfl) ?_ ?_ ?_; rotate_left 2; (rintro w' ⟨s0, s1, s2, -⟩; go_simp; with_reducible rfl); (simp only [Act.put, List.setIfInBounds_toArray, List.set_cons_zero, List.set_cons_succ, i64_w, i32_w]; rfl)
        refine rL 26 27 (N := some 38) (v := ?_) (a' := ?_) HT_ HW_ rfl rfl rfl (by kernel_rfl) (fun _ _ _ h => h) hS_ (by rfl) ?_ ?_ ?_; rotate_left 2; (rintro w' ⟨s0, s1, s2, -⟩; go_simp; with_reducible rfl); (simp only [Act.put, List.setIfInBounds_toArray, List.set_cons_zero, List.set_cons_succ, i64_w, i32_w]; rfl)
        refine rL 27 28 (N := some 39) (v := ?_) (a' := ?_) HT_ HW_ rfl rfl rfl (by kernel_rfl) (fun _ _ _ h => h) hS_ (by rfl) ?_ ?_ ?_; rotate_left 2; (rintro w' ⟨s0, s1, s2, -⟩; go_simp; with_reducible rfl); (simp only [Act.put, List.setIfInBounds_toArray, List.set_cons_zero, List.set_cons_succ, i64_w, i32_w]; rfl)
        refine rL 28 29 (N := some 40) (v := ?_) (a' := ?_) HT_ HW_ rfl rfl rfl (by kernel_rfl) (fun _ _ _ h => h) hS_ (by rfl) ?_ ?_ ?_; rotate_left 2; (rintro w' ⟨s0, s1, s2, -⟩; go_simp; with_reducible rfl); (simp only [Act.put, List.setIfInBounds_toArray, List.set_cons_zero, List.set_cons_succ, i64_w, i32_w]; rfl)
        refine rL 29 30 (N := some 41) (v := ?_) (a' := ?_) HT_ HW_ rfl rfl rfl (by kernel_rfl) (fun _ _ _ h => h) hS_ (by rfl) ?_ ?_ ?_; rotate_left 2; (rintro w' ⟨s0, s1, s2, -⟩; go_simp; with_reducible rfl); (simp only [Act.put, List.setIfInBounds_toArray, List.set_cons_zero, List.set_cons_succ, i64_w, i32_w]; rfl)
        by_cases hpos : 0 < kk
        ·have hw1 : IntKind.i64.wrap ((kk : Int) - 1) = (kk : Int) - 1 := IntWalk.i64_in _ (by omega)
         have hw2 : 1 ≤ (kk : Int) := by omega
         have hw3 : (kk : Int) - 1 < (l.length : Int) := by omega
         refine rL 30 31 (N := some 42) (v := ?_) (a' := ?_) HT_ HW_ rfl rfl rfl (by kernel_rfl) (fun _ _ _ h => h) hS_ (by rfl) ?_ ?_ ?_; rotate_left 2; (rintro w' ⟨s0, s1, s2, s3⟩; have s3 := s3 hpos; go_simp; with_reducible rfl); (simp only [Act.put, List.setIfInBounds_toArray, List.set_cons_zero, List.set_cons_succ, i64_w, i32_w]; rfl)
         refine rL 31 32 (N := some 43) (v := ?_) (a' := ?_) HT_ HW_ rfl rfl rfl (by kernel_rfl) (fun _ _ _ h => h) hS_ (by rfl) ?_ ?_ ?_; rotate_left 2; (rintro w' ⟨s0, s1, s2, s3⟩; have s3 := s3 hpos; go_simp; with_reducible rfl); (simp only [Act.put, List.setIfInBounds_toArray, List.set_cons_zero, List.set_cons_succ, i64_w, i32_w]; rfl)
         refine rL 32 33 (N := some 44) (v := ?_) (a' := ?_) HT_ HW_ rfl rfl rfl (by kernel_rfl) (fun _ _ _ h => h) hS_ (by rfl) ?_ ?_ ?_; rotate_left 2; (rintro w' ⟨s0, s1, s2, s3⟩; have s3 := s3 hpos; go_simp; with_reducible rfl); (simp only [Act.put, List.setIfInBounds_toArray, List.set_cons_zero, List.set_cons_succ, i64_w, i32_w]; rfl)
         refine rL 33 34 (N := some 45) (v := ?_) (a' := ?_) HT_ HW_ rfl rfl rfl (by kernel_rfl) (fun _ _ _ h => h) hS_ (by rfl) ?_ ?_ ?_; rotate_left 2; (rintro w' ⟨s0, s1, s2, s3⟩; have s3 := s3 hpos; go_simp; with_reducible rfl); (simp only [Act.put, List.setIfInBounds_toArray, List.set_cons_zero, List.set_cons_succ, i64_w, i32_w]; rfl)
         refine rL 34 35 (N := some 46) (v := ?_) (a' := ?_) HT_ HW_ rfl rfl rfl (by kernel_rfl) (fun _ _ _ h => h) hS_ (by rfl) ?_ ?_ ?_; rotate_left 2; (rintro w' ⟨s0, s1, s2, s3⟩; have s3 := s3 hpos; go_simp; with_reducible rfl); (simp only [Act.put, List.setIfInBounds_toArray, List.set_cons_zero, List.set_cons_succ, i64_w, i32_w]; rfl)
         refine rL 35 36 (N := some 47) (v := ?_) (a' := ?_) HT_ HW_ rfl rfl rfl (by kernel_rfl) (fun _ _ _ h => h) hS_ (by rfl) ?_ ?_ ?_; rotate_left 2; (rintro w' ⟨s0, s1, s2, s3⟩; have s3 := s3 hpos; go_simp; with_reducible rfl); (simp only [Act.put, List.setIfInBounds_toArray, List.set_cons_zero, List.set_cons_succ, i64_w, i32_w]; rfl)
         refine rL 36 37 (N := some 48) (v := ?_) (a' := ?_) HT_ HW_ rfl rfl rfl (by kernel_rfl) (fun _ _ _ h => h) hS_ (by rfl) ?_ ?_ ?_; rotate_left 2; (rintro w' ⟨s0, s1, s2, s3⟩; have s3 := s3 hpos; go_simp; with_reducible rfl); (simp only [Act.put, List.setIfInBounds_toArray, List.set_cons_zero, List.set_cons_succ, i64_w, i32_w]; rfl)
         refine rL 37 38 (N := some 49) (v := ?_) (a' := ?_) HT_ HW_ rfl rfl rfl (by kernel_rfl) (fun _ _ _ h => h) hS_ (by rfl) ?_ ?_ ?_; rotate_left 2; (rintro w' ⟨s0, s1, s2, s3⟩; have s3 := s3 hpos; go_simp; with_reducible rfl); (simp only [Act.put, List.setIfInBounds_toArray, List.set_cons_zero, List.set_cons_succ, i64_w, i32_w]; rfl)
         refine rL 38 39 (N := some 50) (v := ?_) (a' := ?_) HT_ HW_ rfl rfl rfl (by kernel_rfl) (fun _ _ _ h => h) hS_ (by rfl) ?_ ?_ ?_; rotate_left 2; (rintro w' ⟨s0, s1, s2, s3⟩; have s3 := s3 hpos; go_simp; with_reducible rfl); (simp only [Act.put, List.setIfInBounds_toArray, List.set_cons_zero, List.set_cons_succ, i64_w, i32_w]; rfl)
         refine rL 39 40 (N := some 51) (v := ?_) (a' := ?_) HT_ HW_ rfl rfl rfl (by kernel_rfl) (fun _ _ _ h => h) hS_ (by rfl) ?_ ?_ ?_; rotate_left 2; (rintro w' ⟨s0, s1, s2, s3⟩; have s3 := s3 hpos; go_simp; with_reducible rfl); (simp only [Act.put, List.setIfInBounds_toArray, List.set_cons_zero, List.set_cons_succ, i64_w, i32_w]; rfl)
         refine one_ (i := 40) (N := some 52) (upR 44 41) rfl rfl (one_of HT_.out (by kernel_rfl)) (by decide) (fun K hK => ?_)
         refine goes_ Try.func46 (by kernel_rfl) rfl #[.agg #[.slice A1 p.f0.f0.length c1], .agg #[.slice A0_ y.f0.f0.length c0_]] (by rfl) rfl rfl (by (try simp only [List.map_toArray, List.map_cons, List.map_nil]); first | done | rfl) ?_
         refine ((HCV.out ▸ compare_any _ _ _ _ _ _ _ (Kd.C_below (hP1.out hpos).2.1 HBW.out) (hP1.out hpos).1 (Kd.C_below HCy.out HBW.out) HC.out.1 (hP1.out hpos).2.2.2 (by have := rowOf_len b1; omega))).mono ?_
         rintro e w' ⟨rfl, hb_⟩
         refine ⟨_, rfl, ?_⟩
         have n_ := Aside0.mk (below_then HBW.out HBW.out.size hb_); clear HBW hb_; have HBW := n_; clear n_
         refine hK.out _ _ ⟨(cells3_ (blk_below HA.out HBW.out)).1, (cells3_ (blk_below HA.out HBW.out)).2.1, (cells3_ (blk_below HA.out HBW.out)).2.2, fun h => pw_cell_below HBW.out (hP1.out h).2.2.1⟩ (fun hS_ => ?_)
         clear hK K
         refine norm_ (a' := ?_) ?_ ?_
         rotate_left
         (simp only [Act.put, List.setIfInBounds_toArray, List.set_cons_zero, List.set_cons_succ, i64_w, i32_w]; rfl)
         by_cases hcz : 0 ≤ cv
         ·have hcb : decide (0 ≤ cv) = true := decide_eq_true hcz
          refine rL 41 42 (N := some 53) (v := ?_) (a' := ?_) HT_ HW_ rfl rfl rfl (by kernel_rfl) (fun _ _ _ h => h) hS_ (by rfl) ?_ ?_ ?_; rotate_left 2; (rintro w' ⟨s0, s1, s2, -⟩; go_simp; with_reducible rfl); (simp only [Act.put, List.setIfInBounds_toArray, List.set_cons_zero, List.set_cons_succ, i64_w, i32_w]; rfl)
          refine rL 42 43 (N := some 54) (v := ?_) (a' := ?_) HT_ HW_ rfl rfl rfl (by kernel_rfl) (fun _ _ _ h => h) hS_ (by rfl) ?_ ?_ ?_; rotate_left 2; (rintro w' ⟨s0, s1, s2, -⟩; go_simp; with_reducible rfl); (simp only [Act.put, List.setIfInBounds_toArray, List.set_cons_zero, List.set_cons_succ, i64_w, i32_w]; rfl)
          refine rL 43 44 (N := some 55) (v := ?_) (a' := ?_) HT_ HW_ rfl rfl rfl (by kernel_rfl) (fun _ _ _ h => h) hS_ (by rfl) ?_ ?_ ?_; rotate_left 2; (rintro w' ⟨s0, s1, s2, -⟩; go_simp; with_reducible rfl); (simp only [Act.put, List.setIfInBounds_toArray, List.set_cons_zero, List.set_cons_succ, i64_w, i32_w]; rfl)
          clear hw1 hw2 hw3
          refine rD HT_ (by kernel_rfl) ?_
          go_wp2
          go_ret
          exact ⟨ret_bool_ (goodG_no l kk hlt (by rw [GR.out]; simp [*, zeroB])).symm, (FIN.out _ HBW.out).out⟩
         ·have hcb : decide (0 ≤ cv) = false := decide_eq_false hcz
          refine rL 41 42 (N := some 53) (v := ?_) (a' := ?_) HT_ HW_ rfl rfl rfl (by kernel_rfl) (fun _ _ _ h => h) hS_ (by rfl) ?_ ?_ ?_; rotate_left 2; (rintro w' ⟨s0, s1, s2, -⟩; go_simp; with_reducible rfl); (simp only [Act.put, List.setIfInBounds_toArray, List.set_cons_zero, List.set_cons_succ, i64_w, i32_w]; rfl)
          refine rL 42 43 (N := some 54) (v := ?_) (a' := ?_) HT_ HW_ rfl rfl rfl (by kernel_rfl) (fun _ _ _ h => h) hS_ (by rfl) ?_ ?_ ?_; rotate_left 2; (rintro w' ⟨s0, s1, s2, -⟩; go_simp; with_reducible rfl); (simp only [Act.put, List.setIfInBounds_toArray, List.set_cons_zero, List.set_cons_succ, i64_w, i32_w]; rfl)
          refine rL 43 44 (N := some 55) (v := ?_) (a' := ?_) HT_ HW_ rfl rfl rfl (by kernel_rfl) (fun _ _ _ h => h) hS_ (by rfl) ?_ ?_ ?_; rotate_left 2; (rintro w' ⟨s0, s1, s2, -⟩; go_simp; with_reducible rfl); (simp only [Act.put, List.setIfInBounds_toArray, List.set_cons_zero, List.set_cons_succ, i64_w, i32_w]; rfl)
          clear hw1 hw2 hw3
          refine rD HT_ (by kernel_rfl) ?_
          go_wp2
          go_roundg (l.length - (kk + 1))
          case measure => omega
          case rel =>
           refine ⟨kk + 1, by omega, by omega, by go_num, FIN.out _ HBW.out, ⟨fun j hj => ?_⟩⟩
           by_cases e : j = kk
           ·subst e; rw [GR.out]; simp [*, zeroB]
           ·exact F.out j (by omega)
        ·have hkz : ¬ (0 : Int) < (kk : Int) := by omega
         refine rL 30 31 (N := some 42) (v := ?_) (a' := ?_) HT_ HW_ rfl rfl rfl (by kernel_rfl) (fun _ _ _ h => h) hS_ (by rfl) ?_ ?_ ?_; rotate_left 2; (rintro w' ⟨s0, s1, s2, -⟩; go_simp; with_reducible rfl); (simp only [Act.put, List.setIfInBounds_toArray, List.set_cons_zero, List.set_cons_succ, i64_w, i32_w]; rfl)
         refine rL 31 32 (N := some 43) (v := ?_) (a' := ?_) HT_ HW_ rfl rfl rfl (by kernel_rfl) (fun _ _ _ h => h) hS_ (by rfl) ?_ ?_ ?_; rotate_left 2; (rintro w' ⟨s0, s1, s2, -⟩; go_simp; with_reducible rfl); (simp only [Act.put, List.setIfInBounds_toArray, List.set_cons_zero, List.set_cons_succ, i64_w, i32_w]; rfl)
         refine rU 32 33 (N := some 44) (a' := ?_) HT_ HW_ rfl rfl rfl (by kernel_rfl) (fun _ _ _ h => h) hS_ (by rfl) ?_ ?_; rotate_left; (simp only [Act.put, List.setIfInBounds_toArray, List.set_cons_zero, List.set_cons_succ, i64_w, i32_w]; rfl)
         refine rU 33 34 (N := some 45) (a' := ?_) HT_ HW_ rfl rfl rfl (by kernel_rfl) (fun _ _ _ h => h) hS_ (by rfl) ?_ ?_; rotate_left; (simp only [Act.put, List.setIfInBounds_toArray, List.set_cons_zero, List.set_cons_succ, i64_w, i32_w]; rfl)
         refine rU 34 35 (N := some 46) (a' := ?_) HT_ HW_ rfl rfl rfl (by kernel_rfl) (fun _ _ _ h => h) hS_ (by rfl) ?_ ?_; rotate_left; (simp only [Act.put, List.setIfInBounds_toArray, List.set_cons_zero, List.set_cons_succ, i64_w, i32_w]; rfl)
         refine rU 35 36 (N := some 47) (a' := ?_) HT_ HW_ rfl rfl rfl (by kernel_rfl) (fun _ _ _ h => h) hS_ (by rfl) ?_ ?_; rotate_left; (simp only [Act.put, List.setIfInBounds_toArray, List.set_cons_zero, List.set_cons_succ, i64_w, i32_w]; rfl)
         refine rU 36 37 (N := some 48) (a' := ?_) HT_ HW_ rfl rfl rfl (by kernel_rfl) (fun _ _ _ h => h) hS_ (by rfl) ?_ ?_; rotate_left; (simp only [Act.put, List.setIfInBounds_toArray, List.set_cons_zero, List.set_cons_succ, i64_w, i32_w]; rfl)
         refine rU 37 38 (N := some 49) (a' := ?_) HT_ HW_ rfl rfl rfl (by kernel_rfl) (fun _ _ _ h => h) hS_ (by rfl) ?_ ?_; rotate_left; (simp only [Act.put, List.setIfInBounds_toArray, List.set_cons_zero, List.set_cons_succ, i64_w, i32_w]; rfl)
         refine rU 38 39 (N := some 50) (a' := ?_) HT_ HW_ rfl rfl rfl (by kernel_rfl) (fun _ _ _ h => h) hS_ (by rfl) ?_ ?_; rotate_left; (simp only [Act.put, List.setIfInBounds_toArray, List.set_cons_zero, List.set_cons_succ, i64_w, i32_w]; rfl)
         refine rU 39 40 (N := some 51) (a' := ?_) HT_ HW_ rfl rfl rfl (by kernel_rfl) (fun _ _ _ h => h) hS_ (by rfl) ?_ ?_; rotate_left; (simp only [Act.put, List.setIfInBounds_toArray, List.set_cons_zero, List.set_cons_succ, i64_w, i32_w]; rfl)
         refine rU 40 41 (N := some 52) (a' := ?_) HT_ HW_ rfl rfl rfl (by kernel_rfl) (fun _ _ _ h => h) hS_ (by rfl) ?_ ?_; rotate_left; (simp only [Act.put, List.setIfInBounds_toArray, List.set_cons_zero, List.set_cons_succ, i64_w, i32_w]; rfl)
         refine rU 41 42 (N := some 53) (a' := ?_) HT_ HW_ rfl rfl rfl (by kernel_rfl) (fun _ _ _ h => h) hS_ (by rfl) ?_ ?_; rotate_left; (simp only [Act.put, List.setIfInBounds_toArray, List.set_cons_zero, List.set_cons_succ, i64_w, i32_w]; rfl)
         refine rL 42 43 (N := some 54) (v := ?_) (a' := ?_) HT_ HW_ rfl rfl rfl (by kernel_rfl) (fun _ _ _ h => h) hS_ (by rfl) ?_ ?_ ?_; rotate_left 2; (rintro w' ⟨s0, s1, s2, -⟩; go_simp; with_reducible rfl); (simp only [Act.put, List.setIfInBounds_toArray, List.set_cons_zero, List.set_cons_succ, i64_w, i32_w]; rfl)
         refine rL 43 44 (N := some 55) (v := ?_) (a' := ?_) HT_ HW_ rfl rfl rfl (by kernel_rfl) (fun _ _ _ h => h) hS_ (by rfl) ?_ ?_ ?_; rotate_left 2; (rintro w' ⟨s0, s1, s2, -⟩; go_simp; with_reducible rfl); (simp only [Act.put, List.setIfInBounds_toArray, List.set_cons_zero, List.set_cons_succ, i64_w, i32_w]; rfl)
         clear hkz
         refine rD HT_ (by kernel_rfl) ?_
         go_wp2
         go_roundg (l.length - (kk + 1))
         case measure => omega
         case rel =>
          refine ⟨kk + 1, by omega, by omega, by go_num, FIN.out _ HBW.out, ⟨fun j hj => ?_⟩⟩
          by_cases e : j = kk
          ·subst e; rw [GR.out]; simp [*, zeroB]
          ·exact F.out j (by omega)
      ·have z1 : (y.f1 == 0) = false := by simp [hz1]
       refine rL 21 22 (N := some 33) (v := ?_) (a' := ?_) HT_ HW_ rfl rfl rfl (by kernel_rfl) (fun _ _ _ h => h) hS_ (by rfl) ?_ ?_ ?_; rotate_left 2; (rintro w' ⟨s0, s1, s2, -⟩; go_simp; with_reducible rfl); (simp only [Act.put, List.setIfInBounds_toArray, List.set_cons_zero, List.set_cons_succ, i64_w, i32_w]; rfl)
       refine rL 22 23 (N := some 34) (v := ?_) (a' := ?_) HT_ HW_ rfl rfl rfl (by kernel_rfl) (fun _ _ _ h => h) hS_ (by rfl) ?_ ?_ ?_; rotate_left 2; (rintro w' ⟨s0, s1, s2, -⟩; go_simp; with_reducible rfl); (simp only [Act.put, List.setIfInBounds_toArray, List.set_cons_zero, List.set_cons_succ, i64_w, i32_w]; rfl)
       refine rU 23 24 (N := some 35) (a' := ?_) HT_ HW_ rfl rfl rfl (by kernel_rfl) (fun _ _ _ h => h) hS_ (by rfl) ?_ ?_; rotate_left; (simp only [Act.put, List.setIfInBounds_toArray, List.set_cons_zero, List.set_cons_succ, i64_w, i32_w]; rfl)
       refine rU 24 25 (N := some 36) (a' := ?_) HT_ HW_ rfl rfl rfl (by kernel_rfl) (fun _ _ _ h => h) hS_ (by rfl) ?_ ?_; rotate_left; (simp only [Act.put, List.setIfInBounds_toArray, List.set_cons_zero, List.set_cons_succ, i64_w, i32_w]; rfl)
       refine rU 25 26 (N := some 37) (a' := ?_) HT_ HW_ rfl rfl rfl (by kernel_rfl) (fun _ _ _ h => h) hS_ (by rfl) ?_ ?_; rotate_left; (simp only [Act.put, List.setIfInBounds_toArray, List.set_cons_zero, List.set_cons_succ, i64_w, i32_w]; rfl)
       refine rL 26 27 (N := some 38) (v := ?_) (a' := ?_) HT_ HW_ rfl rfl rfl (by kernel_rfl) (fun _ _ _ h => h) hS_ (by rfl) ?_ ?_ ?_; rotate_left 2; (rintro w' ⟨s0, s1, s2, -⟩; go_simp; with_reducible rfl); (simp only [Act.put, List.setIfInBounds_toArray, List.set_cons_zero, List.set_cons_succ, i64_w, i32_w]; rfl)
       refine rL 27 28 (N := some 39) (v := ?_) (a' := ?_) HT_ HW_ rfl rfl rfl (by kernel_rfl) (fun _ _ _ h => h) hS_ (by rfl) ?_ ?_ ?_; rotate_left 2; (rintro w' ⟨s0, s1, s2, -⟩; go_simp; with_reducible rfl); (simp only [Act.put, List.setIfInBounds_toArray, List.set_cons_zero, List.set_cons_succ, i64_w, i32_w]; rfl)
       refine rL 28 29 (N := some 40) (v := ?_) (a' := ?_) HT_ HW_ rfl rfl rfl (by kernel_rfl) (fun _ _ _ h => h) hS_ (by rfl) ?_ ?_ ?_; rotate_left 2; (rintro w' ⟨s0, s1, s2, -⟩; go_simp; with_reducible rfl); (simp only [Act.put, List.setIfInBounds_toArray, List.set_cons_zero, List.set_cons_succ, i64_w, i32_w]; rfl)
       refine rL 29 30 (N := some 41) (v := ?_) (a' := ?_) HT_ HW_ rfl rfl rfl (by kernel_rfl) (fun _ _ _ h => h) hS_ (by rfl) ?_ ?_ ?_; rotate_left 2; (rintro w' ⟨s0, s1, s2, -⟩; go_simp; with_reducible rfl); (simp only [Act.put, List.setIfInBounds_toArray, List.set_cons_zero, List.set_cons_succ, i64_w, i32_w]; rfl)
       by_cases hpos : 0 < kk
       ·have hw1 : IntKind.i64.wrap ((kk : Int) - 1) = (kk : Int) - 1 := IntWalk.i64_in _ (by omega)
        have hw2 : 1 ≤ (kk : Int) := by omega
        have hw3 : (kk : Int) - 1 < (l.length : Int) := by omega
        refine rL 30 31 (N := some 42) (v := ?_) (a' := ?_) HT_ HW_ rfl rfl rfl (by kernel_rfl) (fun _ _ _ h => h) hS_ (by rfl) ?_ ?_ ?_; rotate_left 2; (rintro w' ⟨s0, s1, s2, s3⟩; have s3 := s3 hpos; go_simp; with_reducible rfl); (simp only [Act.put, List.setIfInBounds_toArray, List.set_cons_zero, List.set_cons_succ, i64_w, i32_w]; rfl)
        refine rL 31 32 (N := some 43) (v := ?_) (a' := ?_) HT_ HW_ rfl rfl rfl (by kernel_rfl) (fun _ _ _ h => h) hS_ (by rfl) ?_ ?_ ?_; rotate_left 2; (rintro w' ⟨s0, s1, s2, s3⟩; have s3 := s3 hpos; go_simp; with_reducible rfl); (simp only [Act.put, List.setIfInBounds_toArray, List.set_cons_zero, List.set_cons_succ, i64_w, i32_w]; rfl)
        refine rL 32 33 (N := some 44) (v := ?_) (a' := ?_) HT_ HW_ rfl rfl rfl (by kernel_rfl) (fun _ _ _ h => h) hS_ (by rfl) ?_ ?_ ?_; rotate_left 2; (rintro w' ⟨s0, s1, s2, s3⟩; have s3 := s3 hpos; go_simp; with_reducible rfl); (simp only [Act.put, List.setIfInBounds_toArray, List.set_cons_zero, List.set_cons_succ, i64_w, i32_w]; rfl)
        refine rL 33 34 (N := some 45) (v := ?_) (a' := ?_) HT_ HW_ rfl rfl rfl (by kernel_rfl) (fun _ _ _ h => h) hS_ (by rfl) ?_ ?_ ?_; rotate_left 2; (rintro w' ⟨s0, s1, s2, s3⟩; have s3 := s3 hpos; go_simp; with_reducible rfl); (simp only [Act.put, List.setIfInBounds_toArray, List.set_cons_zero, List.set_cons_succ, i64_w, i32_w]; rfl)
        refine rL 34 35 (N := some 46) (v := ?_) (a' := ?_) HT_ HW_ rfl rfl rfl (by kernel_rfl) (fun _ _ _ h => h) hS_ (by rfl) ?_ ?_ ?_; rotate_left 2; (rintro w' ⟨s0, s1, s2, s3⟩; have s3 := s3 hpos; go_simp; with_reducible rfl); (simp only [Act.put, List.setIfInBounds_toArray, List.set_cons_zero, List.set_cons_succ, i64_w, i32_w]; rfl)
        refine rL 35 36 (N := some 47) (v := ?_) (a' := ?_) HT_ HW_ rfl rfl rfl (by kernel_rfl) (fun _ _ _ h => h) hS_ (by rfl) ?_ ?_ ?_; rotate_left 2; (rintro w' ⟨s0, s1, s2, s3⟩; have s3 := s3 hpos; go_simp; with_reducible rfl); (simp only [Act.put, List.setIfInBounds_toArray, List.set_cons_zero, List.set_cons_succ, i64_w, i32_w]; rfl)
        refine rL 36 37 (N := some 48) (v := ?_) (a' := ?_) HT_ HW_ rfl rfl rfl (by kernel_rfl) (fun _ _ _ h => h) hS_ (by rfl) ?_ ?_ ?_; rotate_left 2; (rintro w' ⟨s0, s1, s2, s3⟩; have s3 := s3 hpos; go_simp; with_reducible rfl); (simp only [Act.put, List.setIfInBounds_toArray, List.set_cons_zero, List.set_cons_succ, i64_w, i32_w]; rfl)
        refine rL 37 38 (N := some 49) (v := ?_) (a' := ?_) HT_ HW_ rfl rfl rfl (by kernel_rfl) (fun _ _ _ h => h) hS_ (by rfl) ?_ ?_ ?_; rotate_left 2; (rintro w' ⟨s0, s1, s2, s3⟩; have s3 := s3 hpos; go_simp; with_reducible rfl); (simp only [Act.put, List.setIfInBounds_toArray, List.set_cons_zero, List.set_cons_succ, i64_w, i32_w]; rfl)
        refine rL 38 39 (N := some 50) (v := ?_) (a' := ?_) HT_ HW_ rfl rfl rfl (by kernel_rfl) (fun _ _ _ h => h) hS_ (by rfl) ?_ ?_ ?_; rotate_left 2; (rintro w' ⟨s0, s1, s2, s3⟩; have s3 := s3 hpos; go_simp; with_reducible rfl); (simp only [Act.put, List.setIfInBounds_toArray, List.set_cons_zero, List.set_cons_succ, i64_w, i32_w]; rfl)
        refine rL 39 40 (N := some 51) (v := ?_) (a' := ?_) HT_ HW_ rfl rfl rfl (by kernel_rfl) (fun _ _ _ h => h) hS_ (by rfl) ?_ ?_ ?_; rotate_left 2; (rintro w' ⟨s0, s1, s2, s3⟩; have s3 := s3 hpos; go_simp; with_reducible rfl); (simp only [Act.put, List.setIfInBounds_toArray, List.set_cons_zero, List.set_cons_succ, i64_w, i32_w]; rfl)
        refine one_ (i := 40) (N := some 52) (upR 44 41) rfl rfl (one_of HT_.out (by kernel_rfl)) (by decide) (fun K hK => ?_)
        refine goes_ Try.func46 (by kernel_rfl) rfl #[.agg #[.slice A1 p.f0.f0.length c1], .agg #[.slice A0_ y.f0.f0.length c0_]] (by rfl) rfl rfl (by (try simp only [List.map_toArray, List.map_cons, List.map_nil]); first | done | rfl) ?_
        refine ((HCV.out ▸ compare_any _ _ _ _ _ _ _ (Kd.C_below (hP1.out hpos).2.1 HBW.out) (hP1.out hpos).1 (Kd.C_below HCy.out HBW.out) HC.out.1 (hP1.out hpos).2.2.2 (by have := rowOf_len b1; omega))).mono ?_
        rintro e w' ⟨rfl, hb_⟩
        refine ⟨_, rfl, ?_⟩
        have n_ := Aside0.mk (below_then HBW.out HBW.out.size hb_); clear HBW hb_; have HBW := n_; clear n_
        refine hK.out _ _ ⟨(cells3_ (blk_below HA.out HBW.out)).1, (cells3_ (blk_below HA.out HBW.out)).2.1, (cells3_ (blk_below HA.out HBW.out)).2.2, fun h => pw_cell_below HBW.out (hP1.out h).2.2.1⟩ (fun hS_ => ?_)
        clear hK K
        refine norm_ (a' := ?_) ?_ ?_
        rotate_left
        (simp only [Act.put, List.setIfInBounds_toArray, List.set_cons_zero, List.set_cons_succ, i64_w, i32_w]; rfl)
        by_cases hcz : 0 ≤ cv
        ·have hcb : decide (0 ≤ cv) = true := decide_eq_true hcz
         refine rL 41 42 (N := some 53) (v := ?_) (a' := ?_) HT_ HW_ rfl rfl rfl (by kernel_rfl) (fun _ _ _ h => h) hS_ (by rfl) ?_ ?_ ?_; rotate_left 2; (rintro w' ⟨s0, s1, s2, -⟩; go_simp; with_reducible rfl); (simp only [Act.put, List.setIfInBounds_toArray, List.set_cons_zero, List.set_cons_succ, i64_w, i32_w]; rfl)
         refine rL 42 43 (N := some 54) (v := ?_) (a' := ?_) HT_ HW_ rfl rfl rfl (by kernel_rfl) (fun _ _ _ h => h) hS_ (by rfl) ?_ ?_ ?_; rotate_left 2; (rintro w' ⟨s0, s1, s2, -⟩; go_simp; with_reducible rfl); (simp only [Act.put, List.setIfInBounds_toArray, List.set_cons_zero, List.set_cons_succ, i64_w, i32_w]; rfl)
         refine rL 43 44 (N := some 55) (v := ?_) (a' := ?_) HT_ HW_ rfl rfl rfl (by kernel_rfl) (fun _ _ _ h => h) hS_ (by rfl) ?_ ?_ ?_; rotate_left 2; (rintro w' ⟨s0, s1, s2, -⟩; go_simp; with_reducible rfl); (simp only [Act.put, List.setIfInBounds_toArray, List.set_cons_zero, List.set_cons_succ, i64_w, i32_w]; rfl)
         clear hw1 hw2 hw3
         refine rD HT_ (by kernel_rfl) ?_
         go_wp2
         go_ret
         exact ⟨ret_bool_ (goodG_no l kk hlt (by rw [GR.out]; simp [*, zeroB])).symm, (FIN.out _ HBW.out).out⟩
        ·have hcb : decide (0 ≤ cv) = false := decide_eq_false hcz
         refine rL 41 42 (N := some 53) (v := ?_) (a' := ?_) HT_ HW_ rfl rfl rfl (by kernel_rfl) (fun _ _ _ h => h) hS_ (by rfl) ?_ ?_ ?_; rotate_left 2; (rintro w' ⟨s0, s1, s2, -⟩; go_simp; with_reducible rfl); (simp only [Act.put, List.setIfInBounds_toArray, List.set_cons_zero, List.set_cons_succ, i64_w, i32_w]; rfl)
         refine rL 42 43 (N := some 54) (v := ?_) (a' := ?_) HT_ HW_ rfl rfl rfl (by kernel_rfl) (fun _ _ _ h => h) hS_ (by rfl) ?_ ?_ ?_; rotate_left 2; (rintro w' ⟨s0, s1, s2, -⟩; go_simp; with_reducible rfl); (simp only [Act.put, List.setIfInBounds_toArray, List.set_cons_zero, List.set_cons_succ, i64_w, i32_w]; rfl)
         refine rL 43 44 (N := some 55) (v := ?_) (a' := ?_) HT_ HW_ rfl rfl rfl (by kernel_rfl) (fun _ _ _ h => h) hS_ (by rfl) ?_ ?_ ?_; rotate_left 2; (rintro w' ⟨s0, s1, s2, -⟩; go_simp; with_reducible rfl); (simp only [Act.put, List.setIfInBounds_toArray, List.set_cons_zero, List.set_cons_succ, i64_w, i32_w]; rfl)
         clear hw1 hw2 hw3
         refine rD HT_ (by kernel_rfl) ?_
         go_wp2
         go_roundg (l.length - (kk + 1))
         case measure => omega
         case rel =>
          refine ⟨kk + 1, by omega, by omega, by go_num, FIN.out _ HBW.out, ⟨fun j hj => ?_⟩⟩
          by_cases e : j = kk
          ·subst e; rw [GR.out]; simp [*, zeroB]
          ·exact F.out j (by omega)
       ·have hkz : ¬ (0 : Int) < (kk : Int) := by omega
        refine rL 30 31 (N := some 42) (v := ?_) (a' := ?_) HT_ HW_ rfl rfl rfl (by kernel_rfl) (fun _ _ _ h => h) hS_ (by rfl) ?_ ?_ ?_; rotate_left 2; (rintro w' ⟨s0, s1, s2, -⟩; go_simp; with_reducible rfl); (simp only [Act.put, List.setIfInBounds_toArray, List.set_cons_zero, List.set_cons_succ, i64_w, i32_w]; rfl)
        refine rL 31 32 (N := some 43) (v := ?_) (a' := ?_) HT_ HW_ rfl rfl rfl (by kernel_rfl) (fun _ _ _ h => h) hS_ (by rfl) ?_ ?_ ?_; rotate_left 2; (rintro w' ⟨s0, s1, s2, -⟩; go_simp; with_reducible rfl); (simp only [Act.put, List.setIfInBounds_toArray, List.set_cons_zero, List.set_cons_succ, i64_w, i32_w]; rfl)
        refine rU 32 33 (N := some 44) (a' := ?_) HT_ HW_ rfl rfl rfl (by kernel_rfl) (fun _ _ _ h => h) hS_ (by rfl) ?_ ?_; rotate_left; (simp only [Act.put, List.setIfInBounds_toArray, List.set_cons_zero, List.set_cons_succ, i64_w, i32_w]; rfl)
        refine rU 33 34 (N := some 45) (a' := ?_) HT_ HW_ rfl rfl rfl (by kernel_rfl) (fun _ _ _ h => h) hS_ (by rfl) ?_ ?_; rotate_left; (simp only [Act.put, List.setIfInBounds_toArray, List.set_cons_zero, List.set_cons_succ, i64_w, i32_w]; rfl)
        refine rU 34 35 (N := some 46) (a' := ?_) HT_ HW_ rfl rfl rfl (by kernel_rfl) (fun _ _ _ h => h) hS_ (by rfl) ?_ ?_; rotate_left; (simp only [Act.put, List.setIfInBounds_toArray, List.set_cons_zero, List.set_cons_succ, i64_w, i32_w]; rfl)
        refine rU 35 36 (N := some 47) (a' := ?_) HT_ HW_ rfl rfl rfl (by kernel_rfl) (fun _ _ _ h => h) hS_ (by rfl) ?_ ?_; rotate_left; (simp only [Act.put, List.setIfInBounds_toArray, List.set_cons_zero, List.set_cons_succ, i64_w, i32_w]; rfl)
        refine rU 36 37 (N := some 48) (a' := ?_) HT_ HW_ rfl rfl rfl (by kernel_rfl) (fun _ _ _ h => h) hS_ (by rfl) ?_ ?_; rotate_left; (simp only [Act.put, List.setIfInBounds_toArray, List.set_cons_zero, List.set_cons_succ, i64_w, i32_w]; rfl)
        refine rU 37 38 (N := some 49) (a' := ?_) HT_ HW_ rfl rfl rfl (by kernel_rfl) (fun _ _ _ h => h) hS_ (by rfl) ?_ ?_; rotate_left; (simp only [Act.put, List.setIfInBounds_toArray, List.set_cons_zero, List.set_cons_succ, i64_w, i32_w]; rfl)
        refine rU 38 39 (N := some 50) (a' := ?_) HT_ HW_ rfl rfl rfl (by kernel_rfl) (fun _ _ _ h => h) hS_ (by rfl) ?_ ?_; rotate_left; (simp only [Act.put, List.setIfInBounds_toArray, List.set_cons_zero, List.set_cons_succ, i64_w, i32_w]; rfl)
        refine rU 39 40 (N := some 51) (a' := ?_) HT_ HW_ rfl rfl rfl (by kernel_rfl) (fun _ _ _ h => h) hS_ (by rfl) ?_ ?_; rotate_left; (simp only [Act.put, List.setIfInBounds_toArray, List.set_cons_zero, List.set_cons_succ, i64_w, i32_w]; rfl)
        refine rU 40 41 (N := some 52) (a' := ?_) HT_ HW_ rfl rfl rfl (by kernel_rfl) (fun _ _ _ h => h) hS_ (by rfl) ?_ ?_; rotate_left; (simp only [Act.put, List.setIfInBounds_toArray, List.set_cons_zero, List.set_cons_succ, i64_w, i32_w]; rfl)
        refine rU 41 42 (N := some 53) (a' := ?_) HT_ HW_ rfl rfl rfl (by kernel_rfl) (fun _ _ _ h => h) hS_ (by rfl) ?_ ?_; rotate_left; (simp only [Act.put, List.setIfInBounds_toArray, List.set_cons_zero, List.set_cons_succ, i64_w, i32_w]; rfl)
        refine rL 42 43 (N := some 54) (v := ?_) (a' := ?_) HT_ HW_ rfl rfl rfl (by kernel_rfl) (fun _ _ _ h => h) hS_ (by rfl) ?_ ?_ ?_; rotate_left 2; (rintro w' ⟨s0, s1, s2, -⟩; go_simp; with_reducible rfl); (simp only [Act.put, List.setIfInBounds_toArray, List.set_cons_zero, List.set_cons_succ, i64_w, i32_w]; rfl)
        refine rL 43 44 (N := some 55) (v := ?_) (a' := ?_) HT_ HW_ rfl rfl rfl (by kernel_rfl) (fun _ _ _ h => h) hS_ (by rfl) ?_ ?_ ?_; rotate_left 2; (rintro w' ⟨s0, s1, s2, -⟩; go_simp; with_reducible rfl); (simp only [Act.put, List.setIfInBounds_toArray, List.set_cons_zero, List.set_cons_succ, i64_w, i32_w]; rfl)
        clear hkz
        refine rD HT_ (by kernel_rfl) ?_
        go_wp2
        go_roundg (l.length - (kk + 1))
        case measure => omega
        case rel =>
         refine ⟨kk + 1, by omega, by omega, by go_num, FIN.out _ HBW.out, ⟨fun j hj => ?_⟩⟩
         by_cases e : j = kk
         ·subst e; rw [GR.out]; simp [*, zeroB]
         ·exact F.out j (by omega)
  ·have : kk = l.length := by omega
   subst this
   go_wp2
   go_ret
   exact ⟨ret_bool_ (by rw [goodG_yes l F.out]; exact decide_eq_decide.2 (by omega)), BW.out⟩
end Go.Proofs.Ytbnmkikifjidjaa.Q
end
section
/- Contracts of a function, printed for this claim by a program of ours over the kit's print. -/
namespace Go.Proofs.Ytbnmkikifjidjaa.Q
open Go.RowKit Go.Proofs.YtbnmkikifjidjaaW.PrintWords Go.Proofs.YtbnmkikifjidjaaW.PrintLast Go.Proofs.YtbnmkikifjidjaaW.PrintMore
attribute [local go_sem] max2_int min2_int max_two min_two max_three min_three max_four min_four   -- for this text's walks alone
set_option linter.unusedVariables false
set_option linter.unusedSimpArgs false

/-- What is asked of a predicate value over Group: at each element, in every world in which all that lay in w lies unturned. -/
def Pred_Group (g : Nat) (lb : Array Value) (p : S30 → Bool) (l : List S30) (w : World) : Prop :=
 ∀ (W : World) (x : S30) (A0_ : Option Addr) (c0_ : Nat), x ∈ l → Kd.C (Kd.int .i64) W A0_ x.f0.f0.length x.f0.f0 → x.f0.f0.length ≤ c0_ → Below w.heap.size w W → Calls Try.prog g (#[.agg #[.slice A0_ x.f0.f0.length c0_, .int .i64 x.f1, .int .i64 x.f2]] ++ lb) W (fun e w' => e = .returned (.bool (p x)) ∧ Below W.heap.size W w')
set_option maxHeartbeats 2000000 in
theorem indexFunc_Group (g : Nat) (lb : Array Value) (p : S30 → Bool) (A : Option Addr) (c : Nat) (l : List S30) (w : World)
  (hr : Kd.C k30 w A l.length l) (hcap : l.length ≤ c) (eg : ∀ args w, (callFunc g args).run Try.prog w = .ok (.enter g args) w)
  (hp : Pred_Group g lb p l w) :
  Calls Try.prog 44 #[.slice A l.length c, .func (.func g) #[] lb] w fun e w' => e = .returned (.int .i64 (idxP p l)) ∧ Below w.heap.size w w' := by
 have hbig : l.length ≤ 9223372036854775807 := hr.2.1
 have HR := Aside0.mk hr
 have HP := Aside0.mk hp
 clear hr hp
 go_enter Try.func44, Try.ntmps44
 go_wp2
 go_loopg [5, 8] l.length (fun gg _ s8 wr => ∃ kk : Nat, kk ≤ l.length ∧ l.length - kk ≤ gg ∧ s8 = .int .i64 kk ∧ Aside0 (Below w.heap.size w wr) ∧ Aside0 (∀ j, j < kk → p (l.getD j z30) = false))
 case atStart => exact ⟨0, Nat.zero_le _, by omega, rfl, ⟨Below.refl _ w⟩, ⟨fun j hj => absurd hj (Nat.not_lt_zero _)⟩⟩
 case round =>
  obtain ⟨kk, hkk, hg, rfl, BW, F⟩ := hrel
  by_cases hlt : kk < l.length
  ·have hltz : (kk : Int) < (l.length : Int) := by omega
   obtain ⟨ad, A0_, c0_, e, hx0, hx1, hx2, hl0_, hC0_⟩ := at_T30 (Kd.C_below HR.out BW.out) (kk : Int) (by omega) hltz
   subst e
   have hy0 : rd_T30 l (kk : Int) = l.getD kk z30 := rfl
   rw [hy0] at hx0 hx1 hx2 hl0_ hC0_
   clear hy0
   simp only [Int.toNat_natCast] at hx0 hx1 hx2
   have hcall := HP.out wr (l.getD kk z30) A0_ c0_ (mem_getD l z30 kk hlt) hC0_ hl0_ BW.out
   generalize hy : l.getD kk z30 = y at hcall hx0 hx1 hx2 hl0_ hC0_
   have B := Aside0.mk hy
   clear hy hl0_ hC0_
   cases hq : p y with
   | true =>
    rw [hq] at hcall
    go_wp2_with (go_at_fn g; refine hcall.mono ?_; rintro e w' ⟨rfl, hb'⟩)
    go_ret
    refine ⟨?_, below_then BW.out BW.out.size hb'⟩
    rw [idxP_hit p l z30 kk hlt (by rw [B.out]; exact hq) F.out]
    rfl
   | false =>
    rw [hq] at hcall
    go_wp2_with (go_at_fn g; refine hcall.mono ?_; rintro e w' ⟨rfl, hb'⟩)
    go_roundg (l.length - (kk + 1))
    case measure => omega
    case rel =>
     refine ⟨kk + 1, by omega, by omega, by go_num, ⟨below_then BW.out BW.out.size hb'⟩, ⟨fun j hj => ?_⟩⟩
     by_cases e : j = kk
     ·subst e
      rw [B.out]; exact hq
     ·exact F.out j (by omega)
  ·have hltz : ¬ (kk : Int) < (l.length : Int) := by omega
   have : kk = l.length := by omega
   subst this
   go_wp2
   go_ret
   refine ⟨?_, BW.out⟩
   rw [idxP_miss' p l z30 F.out]
   rfl
end Go.Proofs.Ytbnmkikifjidjaa.Q
end
section
/- slices.Clone of whole numbers, in the print's own form of contract. -/
namespace Go.Proofs.Ytbnmkikifjidjaa.Q
open Go.RowKit Go.Proofs.YtbnmkikifjidjaaW.PrintWords Go.Proofs.YtbnmkikifjidjaaW.PrintLast
set_option linter.unusedVariables false
set_option linter.unusedSimpArgs false

theorem info3_ : (Try.prog.info? 3).map (fun i => (i.zero, i.size, i.bytes)) = some (some (.int .i64 0), 1, 8) := by kernel_rfl
def slices_Clone_int_int.f (l : List Int) : Option (List Int) := if l.length < 8796093022208 then some l else none
theorem slices_Clone_int_int.calls (A0 : Option Addr) (c0 : Nat) (l0 : List Int) (r : List Int) (w : World) (hr0 : Kd.C (Kd.int .i64) w A0 l0.length l0) (hc0 : l0.length ≤ c0) (h : slices_Clone_int_int.f l0 = some r) :
  Calls Try.prog 79 #[.slice A0 l0.length c0] w fun e w' => ∃ v0_ : Value, e = .returned (v0_) ∧ Kd.R (Kd.int .i64) 3 w' w.heap.size (fun _ => True) v0_ r ∧ Below w.heap.size w w' := by
 unfold slices_Clone_int_int.f at h
 split at h
 case isFalse => cases h
 obtain rfl := Option.some.inj h
 have HR := Aside0.mk hr0
 clear hr0 h
 have hq : ∀ W : World, (binOp .eql 23 (.slice A0 l0.length c0) (.slice none 0 0)).run Try.prog W = .ok (.bool A0.isNone) W := fun W => Go.Lib.run_eql_slice_nil (P := Try.prog) W 23 3 A0 _ _ _ _ Try.underlying23
 cases A0 with
 | none =>
  have hl : l0 = [] := C_nil_ HR.out
  subst hl
  have hq2 : ∀ W : World, (binOp .eql 23 (.slice none 0 c0) (.slice none 0 0)).run Try.prog W = .ok (.bool true) W := hq
  go_enter Try.func79, Try.ntmps79
  go_wp2_with fail
  go_ret
  exact ⟨_, rfl, Kd.R_nil _ _ _ _ _, Below.refl _ _⟩
 | some ad =>
  have hb0 : Below w.heap.size w (w.alloc (.cells #[] 3)) := (Below.refl _ w).alloc (Nat.le_refl _) _
  have HB0 := Aside0.mk hb0
  have HO := Aside0.mk (R_built0 (Kd.int .i64) 3 w)
  clear hb0
  go_enter Try.func79, Try.ntmps79
  go_wp2_with (at_builtin; refine X_pushAll (Kd.int .i64) (fun _ _ _ _ _ h => h) rfl (.tmp 5) (.tmp 6) 23 3 _ 8 rfl Try.underlying23 info3_ rfl (by decide) (by omega) _ [] l0 _ _ _ rfl rfl HO.out (Kd.C_below HR.out HB0.out) HB0.out (by simp; omega) ?_; intro v1 w1 ho hb _; have HO1 := Aside0.mk ho; have HB1 := Aside0.mk hb; clear ho hb)
  go_ret
  exact ⟨_, rfl, HO1.out, HB1.out⟩
end Go.Proofs.Ytbnmkikifjidjaa.Q
end
section
/- Contracts of a function, printed for this claim by a program of ours over the kit's print. -/
namespace Go.Proofs.Ytbnmkikifjidjaa.Q
open Go.RowKit Go.Proofs.YtbnmkikifjidjaaW.PrintWords Go.Proofs.YtbnmkikifjidjaaW.PrintLast Go.Proofs.YtbnmkikifjidjaaW.PrintMore
attribute [local go_sem] max2_int min2_int max_two min_two max_three min_three max_four min_four   -- for this text's walks alone
set_option linter.unusedVariables false
set_option linter.unusedSimpArgs false

/-! ### impl_Row_own: function 48 -/
def impl_Row_own.f (l0_0 : List Int) : Option (List Int) := (slices_Clone_int_int.f l0_0).bind fun t103 => (some t103)
set_option maxHeartbeats 8000000 in
set_option maxRecDepth 100000 in
theorem impl_Row_own.calls (A0_0 : Option Addr) (c0_0 : Nat) (l0_0 : List Int) (r : List Int) (w : World) (hr0_0 : Kd.C (Kd.int .i64) w A0_0 l0_0.length l0_0) (hc0_0 : l0_0.length ≤ c0_0) (h : impl_Row_own.f l0_0 = some r) :
  Calls Try.prog 48 #[.agg #[.slice A0_0 l0_0.length c0_0]] w fun e w' => ∃ v0_ : Value, e = .returned (.agg #[v0_]) ∧ Kd.R (Kd.int .i64) 3 w' w.heap.size (fun _ => True) v0_ r ∧ Below w.heap.size w w' := by
 have hu28 := Try.underlying28
 have HR0_0 := Aside0.mk hr0_0
 have HC0_0 := Aside0.mk hc0_0
 clear hr0_0 hc0_0
 have HB := Aside0.mk (Below.refl w.heap.size w)
 have H : ((slices_Clone_int_int.f l0_0).bind fun t103 => (some t103)) = some r := h
 clear h
 replace H := Option.bind_eq_some_iff.mp H
 obtain ⟨t103, A20, H⟩ := H
 replace H : (some t103) = some r := H
 have A2 := Aside0.mk A20
 clear A20
 obtain rfl := Option.some.inj H
 go_enter Try.func48, Try.ntmps48
 go_wp2_with (first | ((with_reducible refine gate_dst (N := 1) rfl ?_); refine box_event ?hg (N := 1) ?hd (cs := #[.slice A0_0 l0_0.length c0_0]) (t := 28) ?hr ?_; (case hd => rfl); (case hg => rfl); (case hr => first | (go_simp; done) | (go_simp; rfl)); intro gb101 hg w3 hbox hb; have n0_ := Aside0.mk (below_step (by repeat (first | (with_reducible first | exact HB.out | apply below_alloc | apply pw_below_drewN | apply below_drew1) | exact HB.out)) hb); have n1_ := Aside0.mk (hbox); have n2_ := Aside0.mk ((by rw [hg]; exact (below_size (by repeat (first | (with_reducible first | exact HB.out | apply below_alloc | apply pw_below_drewN | apply below_drew1) | exact HB.out))) : w.heap.size ≤ gb101)); have n3_ := Aside0.mk ((by rw [hg]; exact (below_size (by repeat (first | (with_reducible first | exact HB.out | apply below_alloc | apply pw_below_drewN | apply below_drew1) | exact HB.out))) : w.heap.size ≤ gb101)); clear HB; have HB := n0_; have BK101 := n1_; have GW101 := n2_; have GE101 := n3_; clear n0_ n1_ n2_ n3_; clear hb hbox hg) | ((with_reducible refine gate_dst (N := 2) rfl ?_); refine box_event ?hg (N := 2) ?hd (cs := #[.slice none 0 0]) (t := 28) ?hr ?_; (case hd => rfl); (case hg => rfl); (case hr => first | (go_simp; done) | (go_simp; rfl)); intro gb102 hg w4 hbox hb; have n0_ := Aside0.mk (blk_below (g := gb101) (o := .cells #[.slice A0_0 l0_0.length c0_0] 28 (0, 0)) (by (with_reducible repeat (first | refine blk_drewN ?_ _ | refine blk_drew ?_ | refine blk_alloc ?_ _)); exact BK101.out) hb); have n1_ := Aside0.mk (below_step (by repeat (first | (with_reducible first | exact HB.out | apply below_alloc | apply pw_below_drewN | apply below_drew1 | refine below_set ?_ GE101.out) | exact HB.out)) hb); have n2_ := Aside0.mk (hbox); have n3_ := Aside0.mk ((by rw [hg]; exact (below_size (by repeat (first | (with_reducible first | exact HB.out | apply below_alloc | apply pw_below_drewN | apply below_drew1 | refine below_set ?_ GE101.out) | exact HB.out))) : w.heap.size ≤ gb102)); have n4_ := Aside0.mk ((by rw [hg]; exact (below_size (by repeat (first | (with_reducible first | exact HB.out | apply below_alloc | apply pw_below_drewN | apply below_drew1 | refine below_set ?_ GE101.out) | exact HB.out))) : w.heap.size ≤ gb102)); have n5_ := Aside0.mk ((by rw [hg]; exact Nat.ne_of_lt (blk_lt (g := gb101) (o := .cells #[.slice A0_0 l0_0.length c0_0] 28 (0, 0)) (by (with_reducible repeat (first | refine blk_drewN ?_ _ | refine blk_drew ?_ | refine blk_alloc ?_ _)); exact BK101.out)) : gb101 ≠ gb102)); have n6_ := Aside0.mk ((by rw [hg]; exact Nat.ne_of_gt (blk_lt (g := gb101) (o := .cells #[.slice A0_0 l0_0.length c0_0] 28 (0, 0)) (by (with_reducible repeat (first | refine blk_drewN ?_ _ | refine blk_drew ?_ | refine blk_alloc ?_ _)); exact BK101.out)) : gb102 ≠ gb101)); clear BK101; clear HB; have BK101 := n0_; have HB := n1_; have BK102 := n2_; have GW102 := n3_; have GE102 := n4_; have NB101_102 := n5_; have NB102_101 := n6_; clear n0_ n1_ n2_ n3_ n4_ n5_ n6_; clear hb hbox hg; have hnb5 := NB101_102.out; have hnc5 := NB102_101.out; have hcz6_0 : w4.cell? ⟨gb101, 0, none⟩ = some (.slice A0_0 l0_0.length c0_0) := (blk_cell BK101.out 0).trans rfl; have hfz6_0 := blk_frozen BK101.out 0) | ((with_reducible refine gate_callee (f := 79) rfl ?_); refine goesL_ (some 5) rfl rfl Try.func79 (by kernel_rfl) rfl #[.slice A0_0 l0_0.length c0_0] rfl (by (try simp only [List.map_toArray, List.map_cons, List.map_nil]); first | done | rfl | (simp only [List.length_drop, List.length_take]; rfl)) ?_; (with_reducible refine (slices_Clone_int_int.calls _ _ l0_0 t103 _ ?side1 ?side2 A2.out).mono ?_); (case side1 => repeat (first | exact (Kd.C_below HR0_0.out HB.out) | (with_reducible refine Kd.C_alloc ?_ _) | (with_reducible refine Kd.C_drewN ?_ _) | (with_reducible refine Kd.C_drew ?_))); (case side2 => exact HC0_0.out); rintro e w7 ⟨v104, rfl, ho0, hb⟩; refine ⟨_, rfl, ?_⟩; have n0_ := Aside0.mk (Kd.R_lower ho0 (below_size (by repeat (first | (with_reducible first | exact HB.out | apply below_alloc | apply pw_below_drewN | apply below_drew1 | refine below_set ?_ GE101.out | refine below_set ?_ GE102.out) | exact HB.out)))); have n1_ := Aside0.mk (blk_below (g := gb101) (o := .cells #[.slice A0_0 l0_0.length c0_0] 28 (0, 0)) (by (with_reducible repeat (first | refine blk_drewN ?_ _ | refine blk_drew ?_ | refine blk_alloc ?_ _)); exact BK101.out) hb); have n2_ := Aside0.mk (blk_below (g := gb102) (o := .cells #[.slice none 0 0] 28 (0, 0)) (by (with_reducible repeat (first | refine blk_drewN ?_ _ | refine blk_drew ?_ | refine blk_alloc ?_ _)); exact BK102.out) hb); have n3_ := Aside0.mk (below_step (by repeat (first | (with_reducible first | exact HB.out | apply below_alloc | apply pw_below_drewN | apply below_drew1 | refine below_set ?_ GE101.out | refine below_set ?_ GE102.out) | exact HB.out)) hb); clear BK101; clear BK102; clear HB; have HO105 := n0_; have BK101 := n1_; have BK102 := n2_; have HB := n3_; clear n0_ n1_ n2_ n3_; (try clear hb); (try clear hb2); (try clear hk); (try clear hi); (try clear ho0); obtain ⟨Ao8, co8, eo8⟩ := Kd.R_slice HO105.out; subst eo8; have hcz9_0 : w7.cell? ⟨gb102, 0, none⟩ = some (.slice none 0 0) := (blk_cell BK102.out 0).trans rfl; have hfz9_0 := blk_frozen BK102.out 0))
 refine bodyPost_ret (results_cell_row rfl _ _ gb102 28 #[.slice Ao8 t103.length co8] (0, 0) _ rfl (by (with_reducible repeat (first | refine blk_drewN ?_ _ | refine blk_drew ?_ | refine blk_alloc ?_ _)); refine blk_put (cs := #[.slice none 0 0]) ?_ 0 _ rfl; (with_reducible repeat (first | refine blk_drewN ?_ _ | refine blk_drew ?_ | refine blk_alloc ?_ _)); exact BK102.out) Try.underlying28 rfl (by kernel_rfl)) rfl ?_
 exact ⟨_, by first | rfl | (simp [errW_none, errW_some] <;> rfl) | (simp [*, errW_none, errW_some] <;> rfl), by (with_reducible repeat (first | apply Kd.R_alloc | apply Kd.R_drewN | apply Kd.R_drew)); exact Kd.R_mono (Kd.R_far (p := ⟨gb102, 0, none⟩) (Kd.R_types HO105.out BK102.out (by decide)) (fun _ hk => hk.2) (.slice Ao8 t103.length co8)) (fun _ hk => trivial), by repeat (first | (with_reducible first | exact HB.out | apply below_alloc | apply pw_below_drewN | apply below_drew1 | refine below_set ?_ GE101.out | refine below_set ?_ GE102.out) | exact HB.out)⟩

end Go.Proofs.Ytbnmkikifjidjaa.Q
end
section
/- Steps through a region that draws its order, taken in the text's order: what is not wanted (mU), what reads (mL), what calls or makes (rC). -/
namespace Go.Proofs.Ytbnmkikifjidjaa.Q
open Go.RowKit Go.Proofs.YtbnmkikifjidjaaW.PrintWords Go.Proofs.YtbnmkikifjidjaaW.PrintLast
set_option linter.unusedVariables false
set_option linter.unusedSimpArgs false

def lB (n m : Nat) : Array Bool := ((List.range n).map fun i => m.testBit i).toArray
theorem lB_zero (n : Nat) : Array.replicate n false = lB n 0 := by
 apply Array.ext'
 simp only [Array.toList_replicate, lB, Nat.zero_testBit]
 rw [List.map_const', List.length_range]
section
variable {P : Program} {ops : Array Oper} {Q : Exit → Act → World → Prop} {md : Region.Mode} {S : World → Prop}
theorem mS {id n : Nat} {a : Act} {w : World} {T : Bool × List (List Nat × List Nat)} {B : List Nat} (hT : rtab .any ops = T) (hB : waitsOk T.2 B = true) (hm : P.follows .mixedOrders = true) (hn : ops.size = n) (hS : S w.drew)
  (h : S w.drew → Aside0 (rtab .any ops = T) → Aside0 (waitsOk T.2 B = true) → wpAnyLast P .any ops Q S [] n (lB n 0) a w.drew) : (Code.region id ops true).wp P Q a w :=
 start_ (lB n 0) hm hn (lB_zero n) hS (fun hS' => h hS' ⟨hT⟩ ⟨hB⟩)
theorem mL (i m m' : Nat) {n fuel : Nat} {T : Bool × List (List Nat × List Nat)} {B : List Nat} {N : Option Tmp} {oi : Oper} {v : Value} {a a' : Act} {w : World} (hT : Aside0 (rtab md ops = T)) (hB : Aside0 (waitsOk T.2 B = true)) (hi : ops[i]? = some oi) (hN : oi.dst = N)
  (hc : takeW T B [] (lB n m).toList (lB n m').toList i = true) (hQ : ∀ c a w, Q (.panic c) (a.put oi.dst v) w → Q (.panic c) a w) (hS : S w) (hw : Region.wanted oi (yielded ops a.tmps) = true)
  (hy : ∀ w, S w → (execOp a.eval oi).run P w = .ok (.value v) w) (ha : a.put N v = a') (h : wpAnyLast P md ops Q S [] fuel (lB n m') a' w) : wpAnyLast P md ops Q S [] (fuel + 1) (lB n m) a w :=
 take_ (lB n m') hi hN (take_ofW hT.out hB.out hc) hQ (Or.inl ⟨hw, hy⟩) hS ha h
theorem mD {n : Nat} {T : Bool × List (List Nat × List Nat)} {a : Act} {w : World} (hT : Aside0 (rtab md ops = T)) {l : Array Bool} (hc : (readyT T.2 l.toList == []) = true) (h : Q .normal a w) : wpAnyLast P md ops Q S [] n l a w :=
 done_ (done_of hT.out hc) h
end
end Go.Proofs.Ytbnmkikifjidjaa.Q
end
section
/- impl.GroupFor: the first group with a key, of good groups. -/
namespace Go.Proofs.Ytbnmkikifjidjaa.Q
open Go.RowKit Go.Proofs.YtbnmkikifjidjaaW.PrintWords Go.Proofs.YtbnmkikifjidjaaW.PrintLast
set_option linter.unusedVariables false
set_option linter.unusedSimpArgs false

def keyIs (key : List Int) (x : S30) : Bool := decide (cmpR x.f0.f0 key = 0)
theorem pred_key (key : List Int) (l : List S30) (w : World) (B : Nat) (Ak : Option Addr) (ck : Nat) (hB : B < w.heap.size) (hcell : w.cell? ⟨B, 0, none⟩ = some (.slice Ak key.length ck))
  (hk : Kd.C (Kd.int .i64) w Ak key.length key) (hck : key.length ≤ ck) (hkl : key.length ≤ 1000000000) (hl : ∀ x ∈ l, x.f0.f0.length ≤ 1000000000) :
  Pred_Group 45 #[.pointer (some ⟨B, 0, none⟩)] (keyIs key) l w := fun W x A0_ c0_ hx hC hcap hb => by
 have hc : W.cell? ⟨B, 0, none⟩ = some (.slice Ak key.length ck) := (hb.cell (p := ⟨B, 0, none⟩) hB).trans hcell
 have hBW : B < W.heap.size := Nat.lt_of_lt_of_le hB hb.size
 have hne : B ≠ W.heap.size := by omega
 have hb1 : Below W.heap.size W (W.alloc (.cells #[.slice A0_ x.f0.f0.length c0_, .int .i64 x.f1, .int .i64 x.f2] 30)) := (Below.refl _ W).alloc (Nat.le_refl _) _
 have HC := Aside0.mk (compare_any A0_ Ak c0_ ck x.f0.f0 key _ (Kd.C_below hC hb1) hcap (Kd.C_below (Kd.C_below hk hb) hb1) hck (hl x hx) hkl)
 have HB1 := Aside0.mk hb1
 have hu30 := Try.underlying30
 have hu28 := Try.underlying28
 clear hC hk hb1 hl
 show Calls Try.prog 45 #[.agg #[.slice A0_ x.f0.f0.length c0_, .int .i64 x.f1, .int .i64 x.f2], .pointer (some ⟨B, 0, none⟩)] W _
 go_enter Try.func45, Try.ntmps45
 go_wp2_with (go_at_call 46; refine HC.out.mono ?_; rintro e w' ⟨rfl, hb'⟩)
 go_ret
 exact ⟨ret_bool_ (by unfold keyIs; rw [Bool.eq_iff_iff]; simp), below_then HB1.out HB1.out.size hb'⟩
theorem own_f (x : List Int) (h : x.length ≤ 1000000000) : impl_Row_own.f x = some x := by
 unfold impl_Row_own.f slices_Clone_int_int.f
 rw [if_pos (by omega)]; rfl
theorem far3_ {w W : World} {a : Addr} {v : Value} (h : w.cell? a = some v) {g : Nat} (hg : w.heap.size ≤ g) (i : Nat) (u : Value) (j : Nat) (u2 : Value) (k : Nat) (u3 : Value) (hW : W.cell? a = some v) : (((W.setCell ⟨g, i, none⟩ u).setCell ⟨g, j, none⟩ u2).setCell ⟨g, k, none⟩ u3).cell? a = some v := by
 have := World.block_lt_of_cell? w _ h
 have hn : a.block ≠ g := by omega
 rw [cell_far hn, cell_far hn, cell_far hn]
 exact hW
def zKey : List Int × Int × Int × Bool := ([], 0, 0, false)
def groupForB (l : List S30) (key : List Int) : List Int × Int × Int × Bool :=
 if goodGroupsB l && decide (0 ≤ idxP (keyIs key) l) then ((l.getD (idxP (keyIs key) l).toNat z30).f0.f0, (l.getD (idxP (keyIs key) l).toNat z30).f1, (l.getD (idxP (keyIs key) l).toNat z30).f2, true) else zKey
def GFRet (W w' : World) (e : Ending) (r : List Int × Int × Int × Bool) : Prop :=
 ∃ v, e = .returned (.tuple #[.agg #[v, .int .i64 r.2.1, .int .i64 r.2.2.1], .bool r.2.2.2]) ∧ Kd.R (Kd.int .i64) 3 w' W.heap.size (fun _ => True) v r.1 ∧ Below W.heap.size W w'
theorem idxP_lt {α : Type} (p : α → Bool) (l : List α) : idxP p l < l.length := by
 induction l with
 | nil => simp [idxP]
 | cons x l ih =>
  simp only [idxP]
  split
  ·simp
  ·split <;> simp <;> omega
def T11_4 : Bool × List (List Nat × List Nat) := (true, [([], []), ([], []), ([0, 1], [0, 1]), ([2], [2]), ([3], [3]), ([4], [4]), ([], []), ([], []), ([6, 7], [6, 7]), ([8], [8]), ([9], [9]), ([], []), ([], []), ([11, 12], [11, 12]), ([13], [13]), ([14], [14]), ([5, 10, 15], [5, 10, 15]), ([16, 5, 0, 1, 2, 3, 4, 5, 6, 7, 8, 9, 10, 11, 12, 13, 14, 15, 16], [16]), ([17, 0, 1, 2, 3, 4, 5, 6, 7, 8, 9, 10, 11, 12, 13, 14, 15, 16, 17], [])])
def B11_4 : List Nat := [0, 0, 3, 7, 15, 31, 0, 0, 192, 448, 960, 0, 0, 6144, 14336, 30720, 65535, 131071, 262143]
theorem tab11_4 : rtab .any (opsOf Try.f11 4) = T11_4 := by kernel_rfl
theorem bits11_4 : waitsOk T11_4.2 B11_4 = true := by kernel_rfl
set_option maxHeartbeats 8000000 in
set_option maxRecDepth 100000 in
theorem implGroupFor_calls (A Ak : Option Addr) (c ck : Nat) (l : List S30) (key : List Int) (w : World) (hr : Kd.C k30 w A l.length l) (hcap : l.length ≤ c) (hk : Kd.C (Kd.int .i64) w Ak key.length key) (hck : key.length ≤ ck) (hkl : key.length ≤ 1000000000) (hl : ∀ x ∈ l, x.f0.f0.length ≤ 1000000000) :
  Calls Try.prog 11 #[.slice A l.length c, .agg #[.slice Ak key.length ck]] w fun e w' => GFRet w w' e (groupForB l key) := by
 have hb1 : Below w.heap.size w (w.alloc (.cells #[.slice Ak key.length ck] 28)) := (Below.refl _ w).alloc (Nat.le_refl _) _
 have hA1 := blk_new w (.cells #[.slice Ak key.length ck] 28)
 have e45 : ∀ args w, (callFunc 45 args).run Try.prog w = .ok (.enter 45 args) w := enters_of Try.func45 (by kernel_rfl) rfl
 have HR := Aside0.mk hr
 have HK := Aside0.mk hk
 have HL := Aside0.mk hl
 have HCK := Aside0.mk (And.intro hcap (And.intro hck hkl))
 have HIDX : Aside0 (∀ W, Below w.heap.size w W → W.heap[w.heap.size]? = some (.cells #[.slice Ak key.length ck] 28 (0, 0)) → Calls Try.prog 44 #[.slice A l.length c, .func (.func 45) #[] #[.pointer (some ⟨w.heap.size, 0, none⟩)]] W fun e w' => e = .returned (.int .i64 (idxP (keyIs key) l)) ∧ Below W.heap.size W w') := ⟨fun W hb hbk =>
  indexFunc_Group 45 _ (keyIs key) A c l W (Kd.C_below HR.out hb) HCK.out.1 e45 (pred_key key l W w.heap.size Ak ck (blk_lt hbk) ((blk_cell hbk 0).trans rfl) (Kd.C_below HK.out hb) HCK.out.2.1 HCK.out.2.2 HL.out)⟩
 clear hr hk hl hcap hck hkl e45
 have hu30 := Try.underlying30
 have hu28 := Try.underlying28
 obtain ⟨ix, hix⟩ : ∃ ix, ix = idxP (keyIs key) l := ⟨_, rfl⟩
 have hge := idxP_ge (keyIs key) l
 have hlt := idxP_lt (keyIs key) l
 rw [← hix] at hge hlt
 have HIX := Aside0.mk hix
 obtain ⟨r, hres0⟩ : ∃ r, r = groupForB l key := ⟨_, rfl⟩
 rw [← hres0]
 have HRES := Aside0.mk hres0
 clear hres0
 go_enter Try.func11, Try.ntmps11
 go_upto_region 1 with fail
 have hA2 := blk_alloc hA1 (.cells #[.slice none 0 0, .int .i64 0, .int .i64 0] 30)
 have hb2 := below_alloc hb1 (.cells #[.slice none 0 0, .int .i64 0, .int .i64 0] 30)
 have hg2 := blk_new (w.alloc (.cells #[.slice Ak key.length ck] 28)) (.cells #[.slice none 0 0, .int .i64 0, .int .i64 0] 30)
 have hs1 : (w.alloc (.cells #[.slice Ak key.length ck] 28)).heap.size = w.heap.size + 1 := by simp
 rw [hs1] at hg2
 generalize (w.alloc (.cells #[.slice Ak key.length ck] 28)).alloc (.cells #[.slice none 0 0, .int .i64 0, .int .i64 0] 30) = W at hA2 hb2 hg2 ⊢
 have HA2 := Aside0.mk hA2
 have HB2 := Aside0.mk hb2
 have HG2 := Aside0.mk hg2
 clear hA1 hb1 hA2 hb2 hg2 hs1
 obtain ⟨g, hg⟩ : ∃ g, g = w.heap.size + 1 := ⟨_, rfl⟩
 rw [← hg] at HG2 ⊢
 have HGG := Aside0.mk hg
 clear hg
 have HCI := Aside0.mk (HIDX.out W HB2.out HA2.out)
 clear HIDX
 cases hgood : goodGroupsB l with
 | false =>
  have hres : groupForB l key = zKey := by simp [groupForB, hgood]
  have HRR := Aside0.mk hres
  have HGO := Aside0.mk (show ∀ W', Below w.heap.size w W' → Calls Try.prog 47 #[.slice A l.length c] W' fun e w' => e = .returned (.bool false) ∧ Below W'.heap.size W' w' from fun W' hb => hgood ▸ implGoodGroups_calls A c l W' (Kd.C_below HR.out hb) HCK.out.1)
  rw [← hix] at HCI
  clear hix hres hgood
  go_wp2_with fail
  go_at_call 44; refine HCI.out.mono ?_; rintro e w1 ⟨rfl, hb1⟩
  have HB3 := Aside0.mk (below_then HB2.out HB2.out.size hb1)
  have HG3 := Aside0.mk (blk_below HG2.out hb1)
  clear hb1
  go_wp2_with fail
  go_at_call 47; refine (HGO.out _ HB3.out).mono ?_; rintro e w2 ⟨rfl, hb2⟩
  have HB4 := Aside0.mk (below_then HB3.out HB3.out.size hb2)
  have hg4 := blk_below HG3.out hb2
  have HG4 := Aside0.mk hg4
  obtain ⟨d0, d1, d2⟩ := cells3_ hg4
  have f0 := blk_frozen hg4 0
  have f1 := blk_frozen hg4 1
  have f2 := blk_frozen hg4 2
  clear hb2 hg4
  go_wp2_with fail
  obtain rfl : r = zKey := HRES.out.trans HRR.out
  refine bodyPost_ret (results_ct rfl _ _ g 30 #[.slice none 0 0, .int .i64 0, .int .i64 0] (0, 0) _ rfl (blk_put (blk_put (blk_put HG4.out 0 (.slice none 0 0) rfl) 1 (.int .i64 0) rfl) 2 (.int .i64 0) rfl) Try.underlying30 rfl (by kernel_rfl)) rfl ?_
  exact ⟨_, rfl, Kd.R_nil _ _ _ _ _, ((HB4.out.setCell (p := ⟨g, 0, none⟩) (by have := HGG.out; show w.heap.size ≤ g; omega) _).setCell (p := ⟨g, 1, none⟩) (by have := HGG.out; show w.heap.size ≤ g; omega) _).setCell (p := ⟨g, 2, none⟩) (by have := HGG.out; show w.heap.size ≤ g; omega) _⟩
 | true =>
  have HGO := Aside0.mk (show ∀ W', Below w.heap.size w W' → Calls Try.prog 47 #[.slice A l.length c] W' fun e w' => e = .returned (.bool true) ∧ Below W'.heap.size W' w' from fun W' hb => hgood ▸ implGoodGroups_calls A c l W' (Kd.C_below HR.out hb) HCK.out.1)
  rw [← hix] at HCI
  by_cases hneg : ix < 0
  ·have hres : groupForB l key = zKey := by simp [groupForB, hgood, ← hix]; omega
   have HRR := Aside0.mk hres
   clear hix hres hgood
   go_wp2_with fail
   go_at_call 44; refine HCI.out.mono ?_; rintro e w1 ⟨rfl, hb1⟩
   have HB3 := Aside0.mk (below_then HB2.out HB2.out.size hb1)
   have HG3 := Aside0.mk (blk_below HG2.out hb1)
   clear hb1
   go_wp2_with fail
   go_at_call 47; refine (HGO.out _ HB3.out).mono ?_; rintro e w2 ⟨rfl, hb2⟩
   have HB4 := Aside0.mk (below_then HB3.out HB3.out.size hb2)
   have hg4 := blk_below HG3.out hb2
   have HG4 := Aside0.mk hg4
   obtain ⟨d0, d1, d2⟩ := cells3_ hg4
   have f0 := blk_frozen hg4 0
   have f1 := blk_frozen hg4 1
   have f2 := blk_frozen hg4 2
   clear hb2 hg4
   go_wp2_with fail
   obtain rfl : r = zKey := HRES.out.trans HRR.out
   refine bodyPost_ret (results_ct rfl _ _ g 30 #[.slice none 0 0, .int .i64 0, .int .i64 0] (0, 0) _ rfl (blk_put (blk_put (blk_put HG4.out 0 (.slice none 0 0) rfl) 1 (.int .i64 0) rfl) 2 (.int .i64 0) rfl) Try.underlying30 rfl (by kernel_rfl)) rfl ?_
   exact ⟨_, rfl, Kd.R_nil _ _ _ _ _, ((HB4.out.setCell (p := ⟨g, 0, none⟩) (by have := HGG.out; show w.heap.size ≤ g; omega) _).setCell (p := ⟨g, 1, none⟩) (by have := HGG.out; show w.heap.size ≤ g; omega) _).setCell (p := ⟨g, 2, none⟩) (by have := HGG.out; show w.heap.size ≤ g; omega) _⟩
  ·obtain ⟨n, rfl⟩ : ∃ n : Nat, ix = n := ⟨ix.toNat, by omega⟩
   have hnl : n < l.length := by omega
   have hres : groupForB l key = ((l.getD n z30).f0.f0, (l.getD n z30).f1, (l.getD n z30).f2, true) := by simp [groupForB, hgood, ← hix]
   have HRR := Aside0.mk hres
   clear hix hres hgood
   obtain ⟨ad, A0, c0, eA, x0, x1, x2, hl0, hC0⟩ := at_T30 HR.out (n : Int) (by omega) (by omega)
   have hy0 : rd_T30 l (n : Int) = l.getD n z30 := rfl
   rw [hy0] at x0 x1 x2 hl0 hC0
   simp only [Int.toNat_natCast] at x0 x1 x2
   clear hy0
   subst eA
   have HYL := Aside0.mk (HL.out _ (mem_getD l z30 n hnl))
   generalize l.getD n z30 = y at x0 x1 x2 hl0 hC0 HRR HYL
   have HX := Aside0.mk (And.intro x0 (And.intro x1 x2))
   have HC := Aside0.mk (And.intro hl0 hC0)
   clear x0 x1 x2 hl0 hC0
   have HNL := Aside0.mk hnl
   have hnz : (n : Int) < (l.length : Int) := by omega
   go_wp2_with fail
   go_at_call 44; refine HCI.out.mono ?_; rintro e w1 ⟨rfl, hb1⟩
   have HB3 := Aside0.mk (below_then HB2.out HB2.out.size hb1)
   have HG3 := Aside0.mk (blk_below HG2.out hb1)
   clear hb1
   go_wp2_with fail
   go_at_call 47; refine (HGO.out _ HB3.out).mono ?_; rintro e w2 ⟨rfl, hb2⟩
   have HB4 := Aside0.mk (below_then HB3.out HB3.out.size hb2)
   have HG4 := Aside0.mk (blk_below HG3.out hb2)
   clear hb2
   go_upto_region 4 with fail
   have e0 := pw_cell_below HB4.out HX.out.1
   have e1 := pw_cell_below HB4.out HX.out.2.1
   have e2 := pw_cell_below HB4.out HX.out.2.2
   have HBW : Aside0 (Below w2.heap.size w2 w2.drew) := ⟨(Below.refl _ _).drew⟩
   refine mS (S := fun w' => w'.cell? (ad.add (n * 3)) = some (.slice A0 y.f0.f0.length c0) ∧ w'.cell? ⟨(ad.add (n * 3)).block, (ad.add (n * 3)).off + 1, none⟩ = some (.int .i64 y.f1) ∧ w'.cell? ⟨(ad.add (n * 3)).block, (ad.add (n * 3)).off + 2, none⟩ = some (.int .i64 y.f2)) tab11_4 bits11_4 (by kernel_rfl) rfl ⟨pw_cell_below HBW.out e0, pw_cell_below HBW.out e1, pw_cell_below HBW.out e2⟩ (fun hS_ HT_ HW_ => ?_)
   refine mL 0 0 1 (N := some 18) (v := ?_) (a' := ?_) HT_ HW_ rfl rfl (by kernel_rfl) (fun _ _ _ h => h) hS_ (by rfl) ?_ ?_ ?_; rotate_left 2; (rintro w' ⟨s0, s1, s2⟩; go_simp; with_reducible rfl); (simp only [Act.put, List.setIfInBounds_toArray, List.set_cons_zero, List.set_cons_succ, i64_w, i32_w]; rfl)
   refine mL 1 1 3 (N := some 19) (v := ?_) (a' := ?_) HT_ HW_ rfl rfl (by kernel_rfl) (fun _ _ _ h => h) hS_ (by rfl) ?_ ?_ ?_; rotate_left 2; (rintro w' ⟨s0, s1, s2⟩; go_simp; with_reducible rfl); (simp only [Act.put, List.setIfInBounds_toArray, List.set_cons_zero, List.set_cons_succ, i64_w, i32_w]; rfl)
   refine mL 2 3 7 (N := some 20) (v := ?_) (a' := ?_) HT_ HW_ rfl rfl (by kernel_rfl) (fun _ _ _ h => h) hS_ (by rfl) ?_ ?_ ?_; rotate_left 2; (rintro w' ⟨s0, s1, s2⟩; go_simp; with_reducible rfl); (simp only [Act.put, List.setIfInBounds_toArray, List.set_cons_zero, List.set_cons_succ, i64_w, i32_w]; rfl)
   refine mL 3 7 15 (N := some 21) (v := ?_) (a' := ?_) HT_ HW_ rfl rfl (by kernel_rfl) (fun _ _ _ h => h) hS_ (by rfl) ?_ ?_ ?_; rotate_left 2; (rintro w' ⟨s0, s1, s2⟩; go_simp; with_reducible rfl); (simp only [Act.put, List.setIfInBounds_toArray, List.set_cons_zero, List.set_cons_succ, i64_w, i32_w]; rfl)
   refine mL 4 15 31 (N := some 22) (v := ?_) (a' := ?_) HT_ HW_ rfl rfl (by kernel_rfl) (fun _ _ _ h => h) hS_ (by rfl) ?_ ?_ ?_; rotate_left 2; (rintro w' ⟨s0, s1, s2⟩; go_simp; with_reducible rfl); (simp only [Act.put, List.setIfInBounds_toArray, List.set_cons_zero, List.set_cons_succ, i64_w, i32_w]; rfl)
   refine mL 6 31 95 (N := some 24) (v := ?_) (a' := ?_) HT_ HW_ rfl rfl (by kernel_rfl) (fun _ _ _ h => h) hS_ (by rfl) ?_ ?_ ?_; rotate_left 2; (rintro w' ⟨s0, s1, s2⟩; go_simp; with_reducible rfl); (simp only [Act.put, List.setIfInBounds_toArray, List.set_cons_zero, List.set_cons_succ, i64_w, i32_w]; rfl)
   refine mL 7 95 223 (N := some 25) (v := ?_) (a' := ?_) HT_ HW_ rfl rfl (by kernel_rfl) (fun _ _ _ h => h) hS_ (by rfl) ?_ ?_ ?_; rotate_left 2; (rintro w' ⟨s0, s1, s2⟩; go_simp; with_reducible rfl); (simp only [Act.put, List.setIfInBounds_toArray, List.set_cons_zero, List.set_cons_succ, i64_w, i32_w]; rfl)
   refine mL 8 223 479 (N := some 26) (v := ?_) (a' := ?_) HT_ HW_ rfl rfl (by kernel_rfl) (fun _ _ _ h => h) hS_ (by rfl) ?_ ?_ ?_; rotate_left 2; (rintro w' ⟨s0, s1, s2⟩; go_simp; with_reducible rfl); (simp only [Act.put, List.setIfInBounds_toArray, List.set_cons_zero, List.set_cons_succ, i64_w, i32_w]; rfl)
   refine mL 9 479 991 (N := some 27) (v := ?_) (a' := ?_) HT_ HW_ rfl rfl (by kernel_rfl) (fun _ _ _ h => h) hS_ (by rfl) ?_ ?_ ?_; rotate_left 2; (rintro w' ⟨s0, s1, s2⟩; go_simp; with_reducible rfl); (simp only [Act.put, List.setIfInBounds_toArray, List.set_cons_zero, List.set_cons_succ, i64_w, i32_w]; rfl)
   refine mL 10 991 2015 (N := some 28) (v := ?_) (a' := ?_) HT_ HW_ rfl rfl (by kernel_rfl) (fun _ _ _ h => h) hS_ (by rfl) ?_ ?_ ?_; rotate_left 2; (rintro w' ⟨s0, s1, s2⟩; go_simp; with_reducible rfl); (simp only [Act.put, List.setIfInBounds_toArray, List.set_cons_zero, List.set_cons_succ, i64_w, i32_w]; rfl)
   refine mL 11 2015 4063 (N := some 29) (v := ?_) (a' := ?_) HT_ HW_ rfl rfl (by kernel_rfl) (fun _ _ _ h => h) hS_ (by rfl) ?_ ?_ ?_; rotate_left 2; (rintro w' ⟨s0, s1, s2⟩; go_simp; with_reducible rfl); (simp only [Act.put, List.setIfInBounds_toArray, List.set_cons_zero, List.set_cons_succ, i64_w, i32_w]; rfl)
   refine mL 12 4063 8159 (N := some 30) (v := ?_) (a' := ?_) HT_ HW_ rfl rfl (by kernel_rfl) (fun _ _ _ h => h) hS_ (by rfl) ?_ ?_ ?_; rotate_left 2; (rintro w' ⟨s0, s1, s2⟩; go_simp; with_reducible rfl); (simp only [Act.put, List.setIfInBounds_toArray, List.set_cons_zero, List.set_cons_succ, i64_w, i32_w]; rfl)
   refine mL 13 8159 16351 (N := some 31) (v := ?_) (a' := ?_) HT_ HW_ rfl rfl (by kernel_rfl) (fun _ _ _ h => h) hS_ (by rfl) ?_ ?_ ?_; rotate_left 2; (rintro w' ⟨s0, s1, s2⟩; go_simp; with_reducible rfl); (simp only [Act.put, List.setIfInBounds_toArray, List.set_cons_zero, List.set_cons_succ, i64_w, i32_w]; rfl)
   refine mL 14 16351 32735 (N := some 32) (v := ?_) (a' := ?_) HT_ HW_ rfl rfl (by kernel_rfl) (fun _ _ _ h => h) hS_ (by rfl) ?_ ?_ ?_; rotate_left 2; (rintro w' ⟨s0, s1, s2⟩; go_simp; with_reducible rfl); (simp only [Act.put, List.setIfInBounds_toArray, List.set_cons_zero, List.set_cons_succ, i64_w, i32_w]; rfl)
   refine mL 15 32735 65503 (N := some 33) (v := ?_) (a' := ?_) HT_ HW_ rfl rfl (by kernel_rfl) (fun _ _ _ h => h) hS_ (by rfl) ?_ ?_ ?_; rotate_left 2; (rintro w' ⟨s0, s1, s2⟩; go_simp; with_reducible rfl); (simp only [Act.put, List.setIfInBounds_toArray, List.set_cons_zero, List.set_cons_succ, i64_w, i32_w]; rfl)
   refine one_ (i := 5) (N := some 23) (lB 19 65535) rfl rfl (one_of HT_.out (by kernel_rfl)) (by decide) (fun K hK => ?_)
   refine goes_ Try.func48 (by kernel_rfl) rfl #[.agg #[.slice A0 y.f0.f0.length c0]] (by rfl) rfl rfl (by (try simp only [List.map_toArray, List.map_cons, List.map_nil]); first | done | rfl) ?_
   refine (impl_Row_own.calls A0 c0 y.f0.f0 y.f0.f0 _ (Kd.C_below (Kd.C_below HC.out.2 HB4.out) HBW.out) HC.out.1 (own_f y.f0.f0 HYL.out)).mono ?_
   rintro e w5 ⟨v5, rfl, hr5, hb_⟩
   refine ⟨_, rfl, ?_⟩
   obtain ⟨A5, c5, rfl⟩ := Kd.R_slice hr5
   have HR5 := Aside0.mk hr5; clear hr5
   have n_ := Aside0.mk (below_then HBW.out HBW.out.size hb_); clear HBW; have HBW := n_; clear n_
   have HLB := Aside0.mk hb_; clear hb_
   refine hK.out _ _ ⟨pw_cell_below HBW.out e0, pw_cell_below HBW.out e1, pw_cell_below HBW.out e2⟩ (fun hS_ => ?_)
   clear hK K
   refine norm_ (a' := ?_) ?_ ?_
   rotate_left
   (simp only [Act.put, List.setIfInBounds_toArray, List.set_cons_zero, List.set_cons_succ, i64_w, i32_w]; rfl)
   refine mL 16 65535 131071 (N := some 34) (v := ?_) (a' := ?_) HT_ HW_ rfl rfl (by kernel_rfl) (fun _ _ _ h => h) hS_ (by rfl) ?_ ?_ ?_; rotate_left 2; (rintro w' ⟨s0, s1, s2⟩; go_simp; with_reducible rfl); (simp only [Act.put, List.setIfInBounds_toArray, List.set_cons_zero, List.set_cons_succ, i64_w, i32_w]; rfl)
   refine one_ (i := 17) (N := none) (lB 19 262143) rfl rfl (one_of HT_.out (by kernel_rfl)) (by decide) (fun K hK => ?_)
   have hg5 := blk_below (blk_below HG4.out ((Below.refl _ _).drew)) HLB.out
   obtain ⟨d0, d1, d2⟩ := cells3_ hg5
   have f0 := blk_frozen hg5 0
   have f1 := blk_frozen hg5 1
   have f2 := blk_frozen hg5 2
   have HG5 := Aside0.mk hg5
   clear hg5
   refine skip_ (w1 := (((w5.setCell ⟨g, 0, none⟩ (.slice A5 y.f0.f0.length c5)).setCell ⟨g, 1, none⟩ (.int .i64 y.f1)).setCell ⟨g, 2, none⟩ (.int .i64 y.f2))) (by rfl) rfl (by first | (go_simp; done) | (go_simp; rfl)) ?_
   clear d0 d1 d2 f0 f1 f2
   refine hK.out _ _ ⟨far3_ HX.out.1 (by have := HGG.out; omega) 0 _ 1 _ 2 _ (pw_cell_below HBW.out e0), far3_ HX.out.2.1 (by have := HGG.out; omega) 0 _ 1 _ 2 _ (pw_cell_below HBW.out e1), far3_ HX.out.2.2 (by have := HGG.out; omega) 0 _ 1 _ 2 _ (pw_cell_below HBW.out e2)⟩ (fun hS_ => ?_)
   clear hK K
   refine mL 18 262143 524287 (N := some 5) (v := ?_) (a' := ?_) HT_ HW_ rfl rfl (by kernel_rfl) (fun _ _ _ h => h) hS_ (by rfl) ?_ ?_ ?_; rotate_left 2; (rintro w' ⟨s0, s1, s2⟩; go_simp; with_reducible rfl); (simp only [Act.put, List.setIfInBounds_toArray, List.set_cons_zero, List.set_cons_succ, i64_w, i32_w]; rfl)
   refine mD HT_ (by kernel_rfl) ?_
   go_wp2_with fail
   obtain rfl := HRES.out.trans HRR.out
   have hg6 := blk_put (cs' := #[.slice A5 y.f0.f0.length c5, .int .i64 y.f1, .int .i64 y.f2]) (blk_put (cs' := #[.slice A5 y.f0.f0.length c5, .int .i64 y.f1, .int .i64 0]) (blk_put (cs' := #[.slice A5 y.f0.f0.length c5, .int .i64 0, .int .i64 0]) HG5.out 0 (.slice A5 y.f0.f0.length c5) rfl) 1 (.int .i64 y.f1) rfl) 2 (.int .i64 y.f2) rfl
   refine bodyPost_ret (results_ct rfl _ _ g 30 _ (0, 0) _ rfl hg6 Try.underlying30 rfl (by kernel_rfl)) rfl ?_
   have hgw : w.heap.size ≤ g := by have := HGG.out; omega
   have hB9 := below_then HB4.out HB4.out.size HBW.out
   have hty : ∀ q, q ∈ 3 :: (Kd.int .i64).E → q ≠ 30 := by decide
   refine ⟨_, rfl, ?_, ((hB9.setCell (p := ⟨g, 0, none⟩) hgw _).setCell (p := ⟨g, 1, none⟩) hgw _).setCell (p := ⟨g, 2, none⟩) hgw _⟩
   exact Kd.R_mono (Kd.R_far (p := ⟨g, 2, none⟩) (Kd.R_far (p := ⟨g, 1, none⟩) (Kd.R_far (p := ⟨g, 0, none⟩) (Kd.R_types (Kd.R_lower HR5.out (below_then HB4.out HB4.out.size ((Below.refl _ _).drew)).size) HG5.out hty) (fun _ hk => hk.2) _) (fun _ hk => hk.2) _) (fun _ hk => hk.2) _) (fun _ _ => trivial)
end Go.Proofs.Ytbnmkikifjidjaa.Q
end
