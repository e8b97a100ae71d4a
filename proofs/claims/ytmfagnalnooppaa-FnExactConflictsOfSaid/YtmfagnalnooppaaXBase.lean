/- Words of this claim's own walks: appends to one row, predicates over lists, small facts. -/
import Derived.Test.YtmfagnalnooppaaQ0
import Derived.Lib.SliceRun
import Derived.Laws.Cells
import Derived.Shelf.Abstract
import Derived.Lib.Hide
import Derived.Outline
namespace Go.Proofs.Ytmfagnalnooppaa.Q
open Go.RowKit Go.Proofs.YtmfagnalnooppaaW.PrintWords Go.Proofs.YtmfagnalnooppaaW.PrintLast
set_option linter.unusedVariables false
set_option linter.unusedSimpArgs false

/-! ### appends to the one row that is held -/
section
variable {P : Program} {ops : Array Oper} {rest : List Oper} {o : Oper} {a : Act} {Q : Exit → Act → World → Prop} {α : Type}
theorem X_push (d : Kd α) {w W : World} (hgd : o.guard = none) (s x : Operand) (t e : TypeId) (z : Value) (bytes : Nat)
    (ho : o.op = .call { callee := .builtin .append, args := #[s, x], argTypes := #[t, t] })
    (ht : P.underlying t = some (.slice e)) (hinfo : (P.info? e).map (fun i => (i.zero, i.size, i.bytes)) = some (some z, d.sz, bytes)) (hz : z.cells.size = d.sz) (hs0 : 0 < d.sz) (hb0 : 0 < bytes)
    (v : Value) (xs : List α) (p : α) (cs : List Value) (hs : a.eval s = v) (hx : a.eval x = .slice (some ⟨W.heap.size, 0, none⟩) 1 1) (hp : d.M W w.heap.size (fun _ => False) p cs)
    (HO : d.R e W w.heap.size (fun _ => True) v xs) (HB : Below w.heap.size w W) (hl : (xs.length + 1) * bytes ≤ 140737488355328)
    (h : ∀ v1 w1, d.R e w1 w.heap.size (fun _ => True) v1 (xs ++ [p]) → Below w.heap.size w w1 → wpList P ops Q rest (a.put o.dst v1) w1) :
    wpList P ops Q (o :: rest) a (W.alloc (.cells cs.toArray e)) :=
  Kd.R_append d (w0 := w) w.heap.size hgd s x t e z bytes ho ht hinfo hz hs0 hb0 v xs p cs (fun _ => True) (fun _ => False) hs hx hp (fun _ hk => hk.elim) (fun _ _ => trivial) HO HB HB.size hl
    fun v1 w1 h1 h2 _ _ => h v1 w1 h1 h2
/-- A whole row that is read, of elements that lead nowhere, appended. -/
theorem X_pushAll (d : Kd α) (hflat : ∀ (W : World) (b : Nat) (ok : Nat → Prop) (x : α) (cs : List Value), d.K W x cs → d.M W b ok x cs) {w W : World} (hgd : o.guard = none) (s x : Operand) (t e : TypeId) (z : Value) (bytes : Nat)
    (ho : o.op = .call { callee := .builtin .append, args := #[s, x], argTypes := #[t, t] })
    (ht : P.underlying t = some (.slice e)) (hinfo : (P.info? e).map (fun i => (i.zero, i.size, i.bytes)) = some (some z, d.sz, bytes)) (hz : z.cells.size = d.sz) (hs0 : 0 < d.sz) (hb0 : 0 < bytes)
    (v : Value) (xs ys : List α) (A : Option Addr) (m c : Nat) (hs : a.eval s = v) (hx : a.eval x = .slice A m c)
    (HO : d.R e W w.heap.size (fun _ => True) v xs) (HR : d.C W A m ys) (HB : Below w.heap.size w W) (hl : (xs.length + m) * bytes ≤ 140737488355328)
    (h : ∀ v1 w1, d.R e w1 w.heap.size (fun _ => True) v1 (xs ++ ys) → Below w.heap.size w w1 → Below W.heap.size W W → wpList P ops Q rest (a.put o.dst v1) w1) :
    wpList P ops Q (o :: rest) a W :=
  Kd.R_append_rows d (Rr := d.K W) (w0 := w) w.heap.size hgd s x t e z bytes ho ht hinfo hz hs0 hb0 v xs ys A m c (fun _ => True) (fun _ => False) hs hx HO HR (fun x cs hk => hflat W _ _ x cs hk) (fun _ hk => hk.elim) (fun _ _ => trivial) HB HB.size hl
    fun v1 w1 h1 h2 _ _ => h v1 w1 h1 h2 (Below.refl _ _)
/-- The same where the element leads to rows that were made since (from n0 on): they lie apart. -/
theorem X_pushS (d : Kd α) {w W : World} (n0 : Nat) (hn0 : n0 ≤ W.heap.size) (hgd : o.guard = none) (s x : Operand) (t e : TypeId) (z : Value) (bytes : Nat)
    (ho : o.op = .call { callee := .builtin .append, args := #[s, x], argTypes := #[t, t] })
    (ht : P.underlying t = some (.slice e)) (hinfo : (P.info? e).map (fun i => (i.zero, i.size, i.bytes)) = some (some z, d.sz, bytes)) (hz : z.cells.size = d.sz) (hs0 : 0 < d.sz) (hb0 : 0 < bytes)
    (v : Value) (xs : List α) (p : α) (cs : List Value) (hs : a.eval s = v) (hx : a.eval x = .slice (some ⟨W.heap.size, 0, none⟩) 1 1) (hp : d.M W w.heap.size (fun k => n0 ≤ k) p cs)
    (HO : Kd.S d e W w.heap.size (fun k => k < n0) v xs) (HB : Below w.heap.size w W) (hl : (xs.length + 1) * bytes ≤ 140737488355328)
    (h : ∀ v1 w1, Kd.S d e w1 w.heap.size (fun _ => True) v1 (xs ++ [p]) → Below w.heap.size w w1 → wpList P ops Q rest (a.put o.dst v1) w1) :
    wpList P ops Q (o :: rest) a (W.alloc (.cells cs.toArray e)) :=
  Kd.S_append d (w0 := w) w.heap.size hgd s x t e z bytes ho ht hinfo hz hs0 hb0 v xs p cs (fun _ => True) (fun k => n0 ≤ k) hs hx hp
    (fun k hk => ⟨trivial, fun e => by have := (Kd.S_R HO).1 k e.symm; omega⟩) (fun _ _ => trivial) (Kd.S_mono HO (fun k hk => ⟨trivial, by omega⟩)) HB HB.size hl
    fun v1 w1 h1 h2 _ _ => h v1 w1 h1 h2
end
/-- What was held ahead of a call lies below what the call makes. -/
theorem S_elder_ {α : Type} {d : Kd α} {e : Nat} {w W : World} {base : Nat} {ok : Nat → Prop} {v : Value} {xs : List α} (h : Kd.S d e w base ok v xs) (hb : Below w.heap.size w W) : Kd.S d e W base (fun k => k < w.heap.size) v xs :=
  Kd.S_below (Kd.S_mono (Kd.S_bound h) (fun k hk => hk.2.2.1)) hb
theorem R_young_ {α : Type} {d : Kd α} {e : Nat} {W : World} {base base' : Nat} {ok : Nat → Prop} {v : Value} {xs : List α} (h : d.R e W base ok v xs) (hb : base' ≤ base) : d.R e W base' (fun k => base ≤ k) v xs :=
  Kd.R_lower (Kd.R_mono (Kd.R_bound h) (fun k hk => hk.2.1)) hb

/-- 'xs[:m]' of a slice that is read. -/
theorem X_cutTo {α : Type} (d : Kd α) {P : Program} (t e : TypeId) {z : Value} {bytes : Nat} (ht : P.underlying t = some (.slice e)) (hinfo : (P.info? e).map (fun i => (i.zero, i.size, i.bytes)) = some (some z, d.sz, bytes)) (A : Option Addr) (c : Nat) (xs : List α) (m : Nat) (hm : m ≤ xs.length) (hc : xs.length ≤ c) :
    (∀ W : World, (Instr.slice t (.slice A xs.length c) none (some (.int .i64 (m : Int))) none).run P W = .ok (.slice A m c) W) ∧ ∀ w, d.C w A xs.length xs → d.C w A m (xs.take m) := by
  obtain ⟨i, hi, hzz⟩ := Option.map_eq_some_iff.1 hinfo
  refine ⟨fun W => ?_, fun w h => ?_⟩
  · have := cut_to (P := P) t e .i64 ht hi A xs.length c (m : Int) (by omega) (by omega) hc W
    simpa using this
  · have := Kd.C_take h hm
    rwa [List.length_take, Nat.min_eq_left hm] at this
/-- 'xs[m:]' of a slice that is read, the new address a letter. -/
theorem X_cut {α : Type} (d : Kd α) {P : Program} (t e : TypeId) {z : Value} {bytes : Nat} (ht : P.underlying t = some (.slice e)) (hinfo : (P.info? e).map (fun i => (i.zero, i.size, i.bytes)) = some (some z, d.sz, bytes)) (A : Option Addr) (c : Nat) (xs : List α) (m : Nat) (j : Int) (hj : j = m) (hm : m ≤ xs.length) (hc : xs.length ≤ c) :
    ∃ A' : Option Addr, (∀ W : World, (Instr.slice t (.slice A xs.length c) (some (.int .i64 j)) none none).run P W = .ok (.slice A' (xs.length - m) (c - m)) W) ∧ ∀ w, d.C w A xs.length xs → d.C w A' (xs.length - m) (xs.drop m) := by
  subst hj
  obtain ⟨i, hi, hzz⟩ := Option.map_eq_some_iff.1 hinfo
  simp only [Prod.mk.injEq] at hzz
  obtain ⟨_, hsz, _⟩ := hzz
  refine ⟨if c = m then A else A.map (·.add (m * d.sz)), fun W => ?_, fun w h => ?_⟩
  · have := cut_from (P := P) t e .i64 ht hi d.sz hsz A xs.length c (m : Int) (by omega) (by omega) W
    simpa using this
  · have := Kd.C_drop h hm hc
    rwa [List.length_drop] at this
/-! ### predicates over lists -/
/-- The first place at which p holds, or -1. -/
def idxP {α : Type} (p : α → Bool) : List α → Int
  | [] => -1
  | x :: l => if p x then 0 else if idxP p l < 0 then -1 else idxP p l + 1
theorem idxP_ge {α : Type} (p : α → Bool) (l : List α) : -1 ≤ idxP p l := by
  induction l with
  | nil => simp [idxP]
  | cons x l ih =>
    simp only [idxP]
    split
    · omega
    · split <;> omega
theorem idxP_miss {α : Type} (p : α → Bool) (l : List α) (h : ∀ x ∈ l, p x = false) : idxP p l = -1 := by
  induction l with
  | nil => rfl
  | cons x l ih => simp [idxP, h x (by simp), ih (fun y hy => h y (by simp [hy]))]
theorem idxP_miss' {α : Type} (p : α → Bool) (l : List α) (d : α) (h : ∀ j, j < l.length → p (l.getD j d) = false) : idxP p l = -1 := idxP_miss p l fun x hx => by
  obtain ⟨j, hj, rfl⟩ := List.getElem_of_mem hx
  have := h j hj
  simpa [List.getD_eq_getElem?_getD, List.getElem?_eq_getElem hj] using this
theorem idxP_hit {α : Type} (p : α → Bool) (l : List α) (d : α) (k : Nat) (hk : k < l.length) (h : p (l.getD k d) = true) (hb : ∀ j, j < k → p (l.getD j d) = false) : idxP p l = k := by
  induction l generalizing k with
  | nil => simp at hk
  | cons x l ih =>
    cases k with
    | zero => simp at h; simp [idxP, h]
    | succ k =>
      have h0 := hb 0 (by omega)
      simp at h0
      have := ih k (by simpa using hk) (by simpa using h) (fun j hj => by simpa using hb (j + 1) (by omega))
      simp only [idxP, h0, this]
      simp
      omega
theorem idxP_nonneg {α : Type} (p : α → Bool) (l : List α) : decide (0 ≤ idxP p l) = l.any p := by
  induction l with
  | nil => simp [idxP]
  | cons x l ih =>
    have := idxP_ge p l
    cases h : p x with
    | true => simp [idxP, h]
    | false =>
      simp only [idxP, h, List.any_cons, Bool.false_or, ← ih]
      by_cases h0 : idxP p l < 0
      · simp [h0]
      · simp [h0]; omega
theorem not_any_not {α : Type} (p : α → Bool) (l : List α) : l.all p = !(l.any fun x => !p x) := by
  induction l with
  | nil => rfl
  | cons x l ih => simp [ih]
theorem mem_getD {α : Type} (l : List α) (d : α) (k : Nat) (h : k < l.length) : l.getD k d ∈ l := by
  rw [List.getD_eq_getElem?_getD, List.getElem?_eq_getElem h]
  exact List.getElem_mem h
theorem ret_int_ {k : IntKind} {a b : Int} (h : a = b) : Ending.returned (.int k a) = .returned (.int k b) := by rw [h]
theorem ret_bool_ {a b : Bool} (h : a = b) : Ending.returned (.bool a) = .returned (.bool b) := by rw [h]
end Go.Proofs.Ytmfagnalnooppaa.Q
