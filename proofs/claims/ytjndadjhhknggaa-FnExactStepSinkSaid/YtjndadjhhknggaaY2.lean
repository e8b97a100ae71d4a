/- Lemmas for this claim: words and contracts of the print, cut down by a program to what is used, and our own texts (part 2). -/
import Derived.Test.YtjndadjhhknggaaProg
import Derived.Below
import Derived.Deep.Draws
import Derived.Deep.AppendLies
import Derived.Maps.AppendAt
import Derived.OwnWalk
import Derived.Laws.BytesArg
import Derived.Laws.MakeOwn
import Derived.Laws.OwnMore
import Derived.Deep.OwnRows
import Derived.Tactics
import Derived.Lib.ConvBytes
import Derived.Laws.Slices
import Derived.WalkKit
import Derived.KernelRfl
import Derived.RowKit3
import Derived.Deep.LoopGhost
import Derived.Deep.QuietTactic
import Derived.BigQuiet
import Derived.WideLaws
import Derived.Deep.DeepCutAuto
import Derived.Deep.CutBlock
import Derived.Deep.RegionHeld3
import Derived.Laws.Rows
import Derived.Lib.AppendStr
import Derived.ArgAppend
import Derived.Laws.IdiomCopy
import Derived.OrdersHeld
import Derived.Laws.BitsLemmas
import Derived.RowKit
import Derived.Lib.SliceRun
import Derived.Laws.Cells
import Derived.Shelf.Abstract
import Derived.Lib.Hide
import Derived.Outline
import Derived.Deep.RegionLaw
import Derived.IntWalk
import Derived.Test.YtjndadjhhknggaaY1
section
/- Contracts of a function, printed for this claim by a program of ours over the kit's print. -/
namespace Go.Proofs.Ytjndadjhhknggaa.Q
open Go.RowKit Go.Proofs.YtjndadjhhknggaaW.PrintWords Go.Proofs.YtjndadjhhknggaaW.PrintLast Go.Proofs.YtjndadjhhknggaaW.PrintMore
attribute [local go_sem] max2_int min2_int max_two min_two max_three min_three max_four min_four   -- for this text's walks alone
set_option linter.unusedVariables false
set_option linter.unusedSimpArgs false

def errW : Option Int → Value
 | none => .nilIface
 | some c => .iface 0 (.int .i64 c)
theorem errW_none : errW none = .nilIface := rfl
theorem errW_some (c : Int) : errW (some c) = .iface 0 (.int .i64 c) := rfl

theorem info3 : (Try.prog.info? 3).map (fun i => (i.zero, i.size, i.bytes)) = some (some (.int .i64 0), 1, 8) := by kernel_rfl
theorem info68 : (Try.prog.info? 68).map (fun i => (i.zero, i.size, i.bytes)) = some (some (.agg #[(.int .i64 0), (.int .i64 0), (.slice none 0 0)]), 3, 40) := by kernel_rfl
-- the values' own types

/-! #### struct type 68 -/
structure S68 where
 f0 : Int
 f1 : Int
 f2 : (List Int)
def z68 : S68 := ⟨(0 : Int), (0 : Int), ([] : List Int)⟩
def k68 : Kd S68 := Kd.iso (Kd.pair (Kd.int .i64) (Kd.pair (Kd.int .i64) (Kd.slice 3 (Kd.int .i64)))) (fun x : S68 => (x.f0, x.f1, x.f2))
theorem k68_open {w : World} {x : S68} {cs : List Value} (h : k68.K w x cs) : ∃ A2 c2, cs = [.int .i64 x.f0, .int .i64 x.f1, .slice A2 x.f2.length c2] ∧ x.f2.length ≤ c2 ∧ (Kd.int .i64).C w A2 x.f2.length x.f2 := by
 obtain ⟨_, _, rfl, rfl, ⟨_, _, rfl, rfl, ⟨A2, c2, rfl, l2, g2⟩⟩⟩ := h
 exact ⟨A2, c2, rfl, l2, g2⟩
theorem k68_openM {w : World} {base : Nat} {ok : Nat → Prop} {x : S68} {cs : List Value} (h : k68.M w base ok x cs) : ∃ v2, cs = [.int .i64 x.f0, .int .i64 x.f1, v2] ∧ (Kd.int .i64).R 3 w base ok v2 x.f2 := by
 obtain ⟨_, _, rfl, rfl, ⟨_, _, rfl, rfl, ⟨v2, rfl, g2⟩⟩⟩ := h
 exact ⟨v2, rfl, g2⟩
theorem k68_mkM (w : World) (base : Nat) (ok : Nat → Prop) (x : S68) {v2 : Value} (g2 : (Kd.int .i64).R 3 w base ok v2 x.f2) : k68.M w base ok x [.int .i64 x.f0, .int .i64 x.f1, v2] := ⟨[.int .i64 x.f0], [.int .i64 x.f1, v2], rfl, rfl, ⟨[.int .i64 x.f1], [v2], rfl, rfl, ⟨v2, rfl, g2⟩⟩⟩
def rd_T68 (xs : List S68) (i : Int) : S68 := xs.getD i.toNat z68
theorem at_T68 {w : World} {A : Option Addr} {n : Nat} {xs : List S68} (h : Kd.C k68 w A n xs) (i : Int) (h0 : 0 ≤ i) (h1 : i < n) : ∃ ad A2 c2, A = some ad ∧ w.cell? (ad.add (i.toNat * 3)) = some (.int .i64 (rd_T68 xs i).f0) ∧ w.cell? ⟨(ad.add (i.toNat * 3)).block, (ad.add (i.toNat * 3)).off + 1, none⟩ = some (.int .i64 (rd_T68 xs i).f1) ∧ w.cell? ⟨(ad.add (i.toNat * 3)).block, (ad.add (i.toNat * 3)).off + 2, none⟩ = some (.slice A2 (rd_T68 xs i).f2.length c2) ∧ (rd_T68 xs i).f2.length ≤ c2 ∧ (Kd.int .i64).C w A2 (rd_T68 xs i).f2.length (rd_T68 xs i).f2 := by
 obtain ⟨ad, c, e, _, hK, hc0⟩ := Kd.C_get h z68 i h0 h1
 have hc : ∀ j u, c[j]? = some u → w.cell? (ad.add (i.toNat * 3 + j)) = some u := hc0
 obtain ⟨A2, c2, rfl, l2, g2⟩ := k68_open hK
 exact ⟨ad, A2, c2, e, hc 0 _ rfl, by rw [← add_field _ _ 1 (by omega)]; exact hc 1 _ rfl, by rw [← add_field _ _ 2 (by omega)]; exact hc 2 _ rfl, l2, g2⟩

/-! #### struct type 82 -/
structure S82 where
 f0 : Int
 f1 : Int
 f2 : (List Int)
def z82 : S82 := ⟨(0 : Int), (0 : Int), ([] : List Int)⟩
def k82 : Kd S82 := Kd.iso (Kd.pair (Kd.int .i64) (Kd.pair (Kd.int .i64) (Kd.slice 3 (Kd.int .i64)))) (fun x : S82 => (x.f0, x.f1, x.f2))
theorem k82_open {w : World} {x : S82} {cs : List Value} (h : k82.K w x cs) : ∃ A2 c2, cs = [.int .i64 x.f0, .int .i64 x.f1, .slice A2 x.f2.length c2] ∧ x.f2.length ≤ c2 ∧ (Kd.int .i64).C w A2 x.f2.length x.f2 := by
 obtain ⟨_, _, rfl, rfl, ⟨_, _, rfl, rfl, ⟨A2, c2, rfl, l2, g2⟩⟩⟩ := h
 exact ⟨A2, c2, rfl, l2, g2⟩
def rd_T82 (xs : List S82) (i : Int) : S82 := xs.getD i.toNat z82
theorem at_T82 {w : World} {A : Option Addr} {n : Nat} {xs : List S82} (h : Kd.C k82 w A n xs) (i : Int) (h0 : 0 ≤ i) (h1 : i < n) : ∃ ad A2 c2, A = some ad ∧ w.cell? (ad.add (i.toNat * 3)) = some (.int .i64 (rd_T82 xs i).f0) ∧ w.cell? ⟨(ad.add (i.toNat * 3)).block, (ad.add (i.toNat * 3)).off + 1, none⟩ = some (.int .i64 (rd_T82 xs i).f1) ∧ w.cell? ⟨(ad.add (i.toNat * 3)).block, (ad.add (i.toNat * 3)).off + 2, none⟩ = some (.slice A2 (rd_T82 xs i).f2.length c2) ∧ (rd_T82 xs i).f2.length ≤ c2 ∧ (Kd.int .i64).C w A2 (rd_T82 xs i).f2.length (rd_T82 xs i).f2 := by
 obtain ⟨ad, c, e, _, hK, hc0⟩ := Kd.C_get h z82 i h0 h1
 have hc : ∀ j u, c[j]? = some u → w.cell? (ad.add (i.toNat * 3 + j)) = some u := hc0
 obtain ⟨A2, c2, rfl, l2, g2⟩ := k82_open hK
 exact ⟨ad, A2, c2, e, hc 0 _ rfl, by rw [← add_field _ _ 1 (by omega)]; exact hc 1 _ rfl, by rw [← add_field _ _ 2 (by omega)]; exact hc 2 _ rfl, l2, g2⟩

/-- A store of a row's value: one cell. -/
theorem st_row_ {α : Type} {d : Kd α} {e base : Nat} {w : World} {ok : Nat → Prop} {v : Value} {xs : List α} (h : d.R e w base ok v xs) : ∀ (P : Program) (W : World) (a : Addr) (m : Mode), (store a v m).run P W = stored P W a v m := by
 obtain ⟨A, c, rfl⟩ := Kd.R_slice h
 exact fun P W a m => run_store P W a _ m rfl
end Go.Proofs.Ytjndadjhhknggaa.Q
end
section
/- Words of this claim's own walks: appends to one row, predicates over lists, small facts. -/
namespace Go.Proofs.Ytjndadjhhknggaa.Q
open Go.RowKit Go.Proofs.YtjndadjhhknggaaW.PrintWords Go.Proofs.YtjndadjhhknggaaW.PrintLast
set_option linter.unusedVariables false
set_option linter.unusedSimpArgs false

/-! ### appends to the one row that is held -/
section
variable {P : Program} {ops : Array Oper} {rest : List Oper} {o : Oper} {a : Act} {Q : Exit → Act → World → Prop} {α : Type}
/-- A whole row that is read, of elements that lead nowhere, appended. -/
theorem X_pushAll (d : Kd α) (hflat : ∀ (W : World) (b : Nat) (ok : Nat → Prop) (x : α) (cs : List Value), d.K W x cs → d.M W b ok x cs) {w W : World} (hgd : o.guard = none) (s x : Operand) (t e : TypeId) (z : Value) (bytes : Nat)
  (ho : o.op = .call { callee := .builtin .append, args := #[s, x], argTypes := #[t, t] })
  (ht : P.underlying t = some (.slice e)) (hinfo : (P.info? e).map (fun i => (i.zero, i.size, i.bytes)) = some (some z, d.sz, bytes)) (hz : z.cells.size = d.sz) (hs0 : 0 < d.sz) (hb0 : 0 < bytes)
  (v : Value) (xs ys : List α) (A : Option Addr) (m c : Nat) (hs : a.eval s = v) (hx : a.eval x = .slice A m c)
  (HO : d.R e W w.heap.size (fun _ => True) v xs) (HR : d.C W A m ys) (HB : Below w.heap.size w W) (hl : (xs.length + m) * bytes ≤ 140737488355328)
  (h : ∀ v1 w1, d.R e w1 w.heap.size (fun _ => True) v1 (xs ++ ys) → Below w.heap.size w w1 → Below W.heap.size W W → wpList P ops Q rest (a.put o.dst v1) w1) :
  wpList P ops Q (o :: rest) a W :=
 Kd.R_append_rows d (Rr := d.K W) (w0 := w) w.heap.size hgd s x t e z bytes ho ht hinfo hz hs0 hb0 v xs ys A m c (fun _ => True) (fun _ => False) hs hx HO HR (fun x cs hk => hflat W _ _ x cs hk) (fun _ hk => hk.elim) (fun _ _ => trivial) HB HB.size hl
  fun v1 w1 h1 h2 _ _ => h v1 w1 h1 h2 (Below.refl _ _)
end

/-! ### predicates over lists -/
/-- An empty slice that was built: a block of its own, of no cells. -/
theorem R_built0 {α : Type} (d : Kd α) (e : Nat) (w : World) : d.R e (w.alloc (.cells #[] e)) w.heap.size (fun _ => True) (.slice (some ⟨w.heap.size, 0, none⟩) 0 0) ([] : List α) :=
 ⟨fun _ _ => trivial, [], ⟨by simp, Or.inr ⟨w.heap.size, 0, #[], rfl, Nat.le_refl _, heap_alloc_new w _, Nat.le_refl _, Nat.zero_le _, by simp, by simp⟩⟩, by simp, fun j p hj => by simp at hj⟩
/-- A nil slice reads as the empty list. -/
theorem C_nil_ {α : Type} {d : Kd α} {w : World} {l : List α} (h : d.C w none l.length l) : l = [] := by
 by_cases hp : 0 < l.length
 ·obtain ⟨ad, e, _⟩ := h.2.2 hp
  cases e
 ·exact List.eq_nil_of_length_eq_zero (by omega)
end Go.Proofs.Ytjndadjhhknggaa.Q
end
section
/- Steps through a region that draws its order, taken in the text's order: what is not wanted (mU), what reads (mL), what calls or makes (rC). -/
namespace Go.Proofs.Ytjndadjhhknggaa.Q
open Go.RowKit Go.Proofs.YtjndadjhhknggaaW.PrintWords Go.Proofs.YtjndadjhhknggaaW.PrintLast
set_option linter.unusedVariables false
set_option linter.unusedSimpArgs false

def lB (n m : Nat) : Array Bool := ((List.range n).map fun i => m.testBit i).toArray
theorem lB_zero (n : Nat) : Array.replicate n false = lB n 0 := by
 apply Array.ext'
 simp only [Array.toList_replicate, lB, Nat.zero_testBit]
 rw [List.map_const', List.length_range]
section
variable {P : Program} {ops : Array Oper} {Q : Exit → Act → World → Prop} {md : Region.Mode} {S : World → Prop} {ds : List Nat}
theorem mS (ds : List Nat) {id n : Nat} {a : Act} {w : World} {T : Bool × List (List Nat × List Nat)} {B : List Nat} (hT : rtab .any ops = T) (hB : waitsOk T.2 B = true) (hm : P.follows .mixedOrders = true) (hn : ops.size = n) (hS : S w.drew)
  (h : S w.drew → Aside0 (rtab .any ops = T) → Aside0 (waitsOk T.2 B = true) → wpAnyLast P .any ops Q S ds n (lB n 0) a w.drew) : (Code.region id ops true).wp P Q a w :=
 start_ (lB n 0) hm hn (lB_zero n) hS (fun hS' => h hS' ⟨hT⟩ ⟨hB⟩)
theorem mL (i m m' : Nat) {n fuel : Nat} {T : Bool × List (List Nat × List Nat)} {B : List Nat} {N : Option Tmp} {oi : Oper} {v : Value} {a a' : Act} {w : World} (hT : Aside0 (rtab md ops = T)) (hB : Aside0 (waitsOk T.2 B = true)) (hi : ops[i]? = some oi) (hN : oi.dst = N)
  (hc : takeW T B ds (lB n m).toList (lB n m').toList i = true) (hQ : ∀ c a w, Q (.panic c) (a.put oi.dst v) w → Q (.panic c) a w) (hS : S w) (hw : Region.wanted oi (yielded ops a.tmps) = true)
  (hy : ∀ w, S w → (execOp a.eval oi).run P w = .ok (.value v) w) (ha : a.put N v = a') (h : wpAnyLast P md ops Q S ds fuel (lB n m') a' w) : wpAnyLast P md ops Q S ds (fuel + 1) (lB n m) a w :=
 take_ (lB n m') hi hN (take_ofW hT.out hB.out hc) hQ (Or.inl ⟨hw, hy⟩) hS ha h
theorem mU (i m m' : Nat) {n fuel : Nat} {T : Bool × List (List Nat × List Nat)} {B : List Nat} {N : Option Tmp} {oi : Oper} {a a' : Act} {w : World} (hT : Aside0 (rtab md ops = T)) (hB : Aside0 (waitsOk T.2 B = true)) (hi : ops[i]? = some oi) (hN : oi.dst = N)
  (hc : takeW T B ds (lB n m).toList (lB n m').toList i = true) (hQ : ∀ c a w, Q (.panic c) (a.put oi.dst undef) w → Q (.panic c) a w) (hS : S w) (hw : Region.wanted oi (yielded ops a.tmps) = false)
  (ha : a.put N undef = a') (h : wpAnyLast P md ops Q S ds fuel (lB n m') a' w) : wpAnyLast P md ops Q S ds (fuel + 1) (lB n m) a w :=
 take_ (lB n m') hi hN (take_ofW hT.out hB.out hc) hQ (Or.inr ⟨hw, rfl⟩) hS ha h
theorem mD {n : Nat} {T : Bool × List (List Nat × List Nat)} {a : Act} {w : World} (hT : Aside0 (rtab md ops = T)) {l : Array Bool} (hc : (readyT T.2 l.toList == []) = true) (h : Q .normal a w) : wpAnyLast P md ops Q S ds n l a w :=
 done_ (done_of hT.out hc) h
end
end Go.Proofs.Ytjndadjhhknggaa.Q
end
section
/- slices.Clone of whole numbers, in the print's own form of contract. -/
namespace Go.Proofs.Ytjndadjhhknggaa.Q
open Go.RowKit Go.Proofs.YtjndadjhhknggaaW.PrintWords Go.Proofs.YtjndadjhhknggaaW.PrintLast
set_option linter.unusedVariables false
set_option linter.unusedSimpArgs false

theorem info3_ : (Try.prog.info? 3).map (fun i => (i.zero, i.size, i.bytes)) = some (some (.int .i64 0), 1, 8) := by kernel_rfl
def slices_Clone_int_int.f (l : List Int) : Option (List Int) := if l.length < 8796093022208 then some l else none
theorem slices_Clone_int_int.calls (A0 : Option Addr) (c0 : Nat) (l0 : List Int) (r : List Int) (w : World) (hr0 : Kd.C (Kd.int .i64) w A0 l0.length l0) (hc0 : l0.length ≤ c0) (h : slices_Clone_int_int.f l0 = some r) :
  Calls Try.prog 45 #[.slice A0 l0.length c0] w fun e w' => ∃ v0_ : Value, e = .returned (v0_) ∧ Kd.R (Kd.int .i64) 3 w' w.heap.size (fun _ => True) v0_ r ∧ Below w.heap.size w w' := by
 unfold slices_Clone_int_int.f at h
 split at h
 case isFalse => cases h
 obtain rfl := Option.some.inj h
 have HR := Aside0.mk hr0
 clear hr0 h
 have hq : ∀ W : World, (binOp .eql 23 (.slice A0 l0.length c0) (.slice none 0 0)).run Try.prog W = .ok (.bool A0.isNone) W := fun W => Go.Lib.run_eql_slice_nil (P := Try.prog) W 23 3 A0 _ _ _ _ Try.underlying23
 cases A0 with
 | none =>
  have hl : l0 = [] := C_nil_ HR.out
  subst hl
  have hq2 : ∀ W : World, (binOp .eql 23 (.slice none 0 c0) (.slice none 0 0)).run Try.prog W = .ok (.bool true) W := hq
  go_enter Try.func45, Try.ntmps45
  go_wp2_with fail
  go_ret
  exact ⟨_, rfl, Kd.R_nil _ _ _ _ _, Below.refl _ _⟩
 | some ad =>
  have hb0 : Below w.heap.size w (w.alloc (.cells #[] 3)) := (Below.refl _ w).alloc (Nat.le_refl _) _
  have HB0 := Aside0.mk hb0
  have HO := Aside0.mk (R_built0 (Kd.int .i64) 3 w)
  clear hb0
  go_enter Try.func45, Try.ntmps45
  go_wp2_with (at_builtin; refine X_pushAll (Kd.int .i64) (fun _ _ _ _ _ h => h) rfl (.tmp 5) (.tmp 6) 23 3 _ 8 rfl Try.underlying23 info3_ rfl (by decide) (by omega) _ [] l0 _ _ _ rfl rfl HO.out (Kd.C_below HR.out HB0.out) HB0.out (by simp; omega) ?_; intro v1 w1 ho hb _; have HO1 := Aside0.mk ho; have HB1 := Aside0.mk hb; clear ho hb)
  go_ret
  exact ⟨_, rfl, HO1.out, HB1.out⟩
end Go.Proofs.Ytjndadjhhknggaa.Q
end
section
/- A sink in memory: its rows told apart by a colour for each block; what a step makes of it, as plain numbers and lists. -/
namespace Go.Proofs.Ytjndadjhhknggaa.Q
open Go.RowKit Go.Proofs.YtjndadjhhknggaaW.PrintWords Go.Proofs.YtjndadjhhknggaaW.PrintLast
set_option linter.unusedVariables false
set_option linter.unusedSimpArgs false

structure SK where
 src : List Int
 at_ : Int
 pend : List Int
 stored : List S68
 out : List Int
 last : Int
 upto : Int
/-- Bounds that keep every sum and every append small. -/
structure SKOk (s : SK) : Prop where
 at0 : 0 ≤ s.at_
 at1 : s.at_ ≤ s.src.length
 src : s.src.length ≤ 1000
 pend : s.pend.length ≤ 1000
 stored : s.stored.length ≤ 1000
 out : s.out.length ≤ 1000000
 last0 : 0 ≤ s.last
 last1 : s.last ≤ 1000000
 rows : ∀ p ∈ s.stored, p.f2.length ≤ 1000
def fromK (s : SK) : Int := if s.stored.length = 0 then s.upto else (s.stored.getD (s.stored.length - 1) z68).f1
def crashK (s : SK) : SK := { s with at_ := fromK s, pend := [] }
def stepK (s : SK) (kind : Int) : Option SK :=
 if kind = 1 then (if s.at_ = s.src.length then none else some { s with pend := s.pend ++ [rd s.src s.at_], at_ := s.at_ + 1 })
 else if kind = 2 then (if s.pend.length = 0 ∨ 4 ≤ s.stored.length ∨ 1000 ≤ s.last + s.stored.length then none else some { s with stored := s.stored ++ [⟨s.last + s.stored.length + 1, s.at_, s.pend⟩], pend := [] })
 else if kind = 3 then (match s.stored with
  | [] => none
  | p :: r => some { s with out := s.out ++ p.f2, last := p.f0, upto := p.f1, stored := r })
 else if kind = 4 then some (crashK s)
 else if kind = 5 then (if s.stored.length < 2 then none else some (crashK { s with stored := s.stored.take (s.stored.length - 1) }))
 else none

/-- The rows of a sink, the blocks told apart by their colours: 0 the source, 2 what is pending, 3 what is stored, 4 what was given out. -/
structure SinkRows (w : World) (base : Nat) (f : Nat → Nat) (s : SK) (v0 v2 v3 v4 : Value) : Prop where
 r0 : Kd.R (Kd.int .i64) 3 w base (fun k => f k = 0) v0 s.src
 r2 : Kd.R (Kd.int .i64) 3 w base (fun k => f k = 2) v2 s.pend
 r3 : Kd.Q k68 68 w base (fun k => f k = 3) v3 s.stored
 r4 : Kd.R (Kd.int .i64) 3 w base (fun k => f k = 4) v4 s.out
/-- The struct's own block. -/
def SinkBlk (g : Nat) (w : World) (s : SK) (v0 v2 v3 v4 : Value) : Prop :=
 w.heap[g]? = some (.cells #[v0, .int .i64 s.at_, v2, v3, v4, .int .i64 s.last, .int .i64 s.upto] 28 (0, 0))
def SinkAt (g : Nat) (w : World) (base : Nat) (s : SK) : Prop := ∃ f v0 v2 v3 v4, SinkBlk g w s v0 v2 v3 v4 ∧ SinkRows w base f s v0 v2 v3 v4
theorem cells7_ {w : World} {g t : Nat} {u0 u1 u2 u3 u4 u5 u6 : Value} (h : w.heap[g]? = some (.cells #[u0, u1, u2, u3, u4, u5, u6] t (0, 0))) :
  w.cell? ⟨g, 0, none⟩ = some u0 ∧ w.cell? ⟨g, 1, none⟩ = some u1 ∧ w.cell? ⟨g, 2, none⟩ = some u2 ∧ w.cell? ⟨g, 3, none⟩ = some u3 ∧ w.cell? ⟨g, 4, none⟩ = some u4 ∧ w.cell? ⟨g, 5, none⟩ = some u5 ∧ w.cell? ⟨g, 6, none⟩ = some u6 :=
 ⟨(blk_cell h 0).trans rfl, (blk_cell h 1).trans rfl, (blk_cell h 2).trans rfl, (blk_cell h 3).trans rfl, (blk_cell h 4).trans rfl, (blk_cell h 5).trans rfl, (blk_cell h 6).trans rfl⟩
section
variable {w w' : World} {base : Nat} {f : Nat → Nat} {s : SK} {v0 v2 v3 v4 : Value}
theorem SinkRows.step (h : SinkRows w base f s v0 v2 v3 v4) (hm : ∀ k, base ≤ k → k < w.heap.size → (∃ q cells, (q = 3 ∨ q = 68) ∧ w.heap[k]? = some (.cells cells q (0, 0))) → w'.heap[k]? = w.heap[k]?) : SinkRows w' base f s v0 v2 v3 v4 := by
 have t3 : ∀ {k : Nat}, (base ≤ k ∧ k < w.heap.size ∧ ∃ q, q ∈ 3 :: (Kd.int .i64).E ∧ ∃ cells, w.heap[k]? = some (.cells cells q (0, 0))) → w'.heap[k]? = w.heap[k]? := fun ⟨h1, h2, q, hq, cells, hc⟩ => by
  have : q = 3 := by simpa [Kd.int, Kd.scalar] using hq
  exact hm _ h1 h2 ⟨q, cells, Or.inl this, hc⟩
 have t68 : ∀ {k : Nat}, (base ≤ k ∧ k < w.heap.size ∧ ∃ q, q ∈ 68 :: k68.E ∧ ∃ cells, w.heap[k]? = some (.cells cells q (0, 0))) → w'.heap[k]? = w.heap[k]? := fun ⟨h1, h2, q, hq, cells, hc⟩ => by
  have hE : k68.E = [3] := rfl
  rw [hE] at hq
  have : q = 68 ∨ q = 3 := by simpa using hq
  exact hm _ h1 h2 ⟨q, cells, this.symm, hc⟩
 exact ⟨Kd.R_mono (Kd.R_move (Kd.R_bound h.r0) (fun k hk => t3 hk.2)) (fun _ hk => hk.1), Kd.R_mono (Kd.R_move (Kd.R_bound h.r2) (fun k hk => t3 hk.2)) (fun _ hk => hk.1), Kd.Q_mono (Kd.Q_move (Kd.Q_bound h.r3) (fun k hk => t68 hk.2)) (fun _ hk => hk.1), Kd.R_mono (Kd.R_move (Kd.R_bound h.r4) (fun k hk => t3 hk.2)) (fun _ hk => hk.1)⟩
theorem SinkRows.below (h : SinkRows w base f s v0 v2 v3 v4) (hb : Below w.heap.size w w') : SinkRows w' base f s v0 v2 v3 v4 := h.step fun k _ hk _ => hb.block k hk
/-- A store into a struct's own block. -/
theorem SinkRows.set (h : SinkRows w base f s v0 v2 v3 v4) {g : Nat} {cs : Array Value} (hg : w.heap[g]? = some (.cells cs 28 (0, 0))) (i : Nat) (u : Value) : SinkRows (w.setCell ⟨g, i, none⟩ u) base f s v0 v2 v3 v4 :=
 h.step fun k _ hk ⟨q, cells, hq, hc⟩ => Below.heap_setCell w ⟨g, i, none⟩ u k (by
  rintro rfl
  rw [hg] at hc
  injection hc with hc
  injection hc with _ hc
  rcases hq with rfl | rfl <;> exact absurd hc (by decide))
theorem SinkBlk.below {g : Nat} (h : SinkBlk g w s v0 v2 v3 v4) (hb : Below w.heap.size w w') : SinkBlk g w' s v0 v2 v3 v4 := blk_below h hb
theorem SinkBlk.lt {g : Nat} (h : SinkBlk g w s v0 v2 v3 v4) : g < w.heap.size := blk_lt h
/-- The colours behind an append: what is new has the appended row's. -/
def recol (f : Nat → Nat) (n c : Nat) : Nat → Nat := fun k => if k < n then f k else c
theorem recol_lt {f : Nat → Nat} {n c k : Nat} (h : k < n) : recol f n c k = f k := by simp [recol, h]
theorem recol_ge {f : Nat → Nat} {n c k : Nat} (h : n ≤ k) : recol f n c k = c := by simp [recol]; omega
/-- The rows under new colours. -/
theorem SinkRows.recol (h : SinkRows w base f s v0 v2 v3 v4) (n c : Nat) (hn : w.heap.size ≤ n) : SinkRows w base (recol f n c) s v0 v2 v3 v4 :=
 ⟨Kd.R_mono (Kd.R_bound h.r0) (fun k hk => by rw [recol_lt (Nat.lt_of_lt_of_le hk.2.2.1 hn)]; exact hk.1), Kd.R_mono (Kd.R_bound h.r2) (fun k hk => by rw [recol_lt (Nat.lt_of_lt_of_le hk.2.2.1 hn)]; exact hk.1), Kd.Q_mono (Kd.Q_bound h.r3) (fun k hk => by rw [recol_lt (Nat.lt_of_lt_of_le hk.2.2.1 hn)]; exact hk.1), Kd.R_mono (Kd.R_bound h.r4) (fun k hk => by rw [recol_lt (Nat.lt_of_lt_of_le hk.2.2.1 hn)]; exact hk.1)⟩
end
section
variable {w w' : World} {base : Nat} {f : Nat → Nat} {s : SK} {v0 v2 v3 v4 v' : Value}
/-- Behind an append to what is pending. -/
theorem SinkRows.pend (h : SinkRows w base f s v0 v2 v3 v4) (hg : w.grownBy w' v2.ownBlock) (l : List Int) (hr : Kd.R (Kd.int .i64) 3 w' base (fun k => f k = 2) v' l) : SinkRows w' base f { s with pend := l } v0 v' v3 v4 := by
 have hne : ∀ (c : Nat), c ≠ 2 → ∀ k, f k = c → some k ≠ v2.ownBlock := fun c hc k hk e => hc (hk.symm.trans (h.r2.1 k e.symm))
 exact ⟨Kd.R_grown h.r0 hg (hne 0 (by decide)), hr, Kd.Q_grown h.r3 hg (hne 3 (by decide)), Kd.R_grown h.r4 hg (hne 4 (by decide))⟩
/-- Behind an append to what was given out. -/
theorem SinkRows.out (h : SinkRows w base f s v0 v2 v3 v4) (hg : w.grownBy w' v4.ownBlock) (l : List Int) (hr : Kd.R (Kd.int .i64) 3 w' base (fun k => f k = 4) v' l) : SinkRows w' base f { s with out := l } v0 v2 v3 v' := by
 have hne : ∀ (c : Nat), c ≠ 4 → ∀ k, f k = c → some k ≠ v4.ownBlock := fun c hc k hk e => hc (hk.symm.trans (h.r4.1 k e.symm))
 exact ⟨Kd.R_grown h.r0 hg (hne 0 (by decide)), Kd.R_grown h.r2 hg (hne 2 (by decide)), Kd.Q_grown h.r3 hg (hne 3 (by decide)), hr⟩
/-- Nothing is pending any more. -/
theorem SinkRows.noPend (h : SinkRows w base f s v0 v2 v3 v4) : SinkRows w base f { s with pend := [] } v0 (.slice none 0 0) v3 v4 := ⟨h.r0, Kd.R_nil _ _ _ _ _, h.r3, h.r4⟩
/-- Numbers do not count. -/
theorem SinkRows.nums (h : SinkRows w base f s v0 v2 v3 v4) (a b c : Int) : SinkRows w base f { s with at_ := a, last := b, upto := c } v0 v2 v3 v4 := ⟨h.r0, h.r2, h.r3, h.r4⟩
end
theorem cells3_ {w : World} {g t : Nat} {v0 v1 v2 : Value} (h : w.heap[g]? = some (.cells #[v0, v1, v2] t (0, 0))) : w.cell? ⟨g, 0, none⟩ = some v0 ∧ w.cell? ⟨g, 1, none⟩ = some v1 ∧ w.cell? ⟨g, 2, none⟩ = some v2 :=
 ⟨(blk_cell h 0).trans rfl, (blk_cell h 1).trans rfl, (blk_cell h 2).trans rfl⟩
/-- What a step spares: all blocks but rows of numbers, rows of what is stored, and the struct's own. -/
structure Spare (g : Nat) (w w' : World) : Prop where
 size : w.heap.size ≤ w'.heap.size
 keep : ∀ (k : Nat) (q : TypeId) (cells : Array Value), w.heap[k]? = some (.cells cells q (0, 0)) → q ≠ 3 → q ≠ 68 → k ≠ g → w'.heap[k]? = w.heap[k]?
theorem Spare.refl (g : Nat) (w : World) : Spare g w w := ⟨Nat.le_refl _, fun _ _ _ _ _ _ _ => rfl⟩
theorem Spare.trans {g : Nat} {w w1 w2 : World} (h : Spare g w w1) (k : Spare g w1 w2) : Spare g w w2 :=
 ⟨Nat.le_trans h.size k.size, fun i q cells hc h1 h2 h3 => (k.keep i q cells ((h.keep i q cells hc h1 h2 h3).trans hc) h1 h2 h3).trans (h.keep i q cells hc h1 h2 h3)⟩
theorem Spare.below {g : Nat} {w w1 : World} (h : Below w.heap.size w w1) : Spare g w w1 := ⟨h.size, fun k q cells hc _ _ _ => h.block k (blk_lt hc)⟩
theorem Spare.set (g : Nat) (w : World) (i : Nat) (u : Value) : Spare g w (w.setCell ⟨g, i, none⟩ u) := ⟨by simp, fun k q cells hc _ _ hne => Below.heap_setCell w ⟨g, i, none⟩ u k hne⟩
theorem Spare.grown {g : Nat} {w w1 : World} {v : Value} {e : TypeId} (h : w.grownBy w1 v.ownBlock) (ht : ∀ k, v.ownBlock = some k → ∃ cells, w.heap[k]? = some (.cells cells e (0, 0))) (he : e = 3 ∨ e = 68) : Spare g w w1 :=
 ⟨h.size, fun k q cells hc h1 h2 _ => h.block k (blk_lt hc) (fun e' => by
  obtain ⟨cs, hcs⟩ := ht k e'.symm
  rw [hcs] at hc
  injection hc with hc
  injection hc with _ hc
  rcases he with rfl | rfl
  ·exact h1 hc.symm
  ·exact h2 hc.symm)⟩
theorem R_typed3 {w : World} {base : Nat} {ok : Nat → Prop} {v : Value} {xs : List Int} (h : Kd.R (Kd.int .i64) 3 w base ok v xs) : ∀ k, v.ownBlock = some k → ∃ cells, w.heap[k]? = some (.cells cells 3 (0, 0)) := fun k hk => by
 obtain ⟨inner, ho⟩ := Kd.R_own h
 exact own_typed ho k hk
/-- What a step, as a method, returns and leaves. -/
def StepRet (g : Nat) (w0 w w' : World) (e : Ending) (s : SK) (o : Option SK) : Prop :=
 e = .returned (.bool o.isSome) ∧ SinkAt g w' w0.heap.size (o.getD s) ∧ Below w0.heap.size w0 w' ∧ Spare g w w'
theorem SinkBlk.set2 {g : Nat} {w : World} {s : SK} {v0 v2 v3 v4 : Value} (h : SinkBlk g w s v0 v2 v3 v4) (v : Value) : SinkBlk g (w.setCell ⟨g, 2, none⟩ v) s v0 v v3 v4 := blk_put h 2 v rfl
theorem SinkBlk.set1 {g : Nat} {w : World} {s : SK} {v0 v2 v3 v4 : Value} (h : SinkBlk g w s v0 v2 v3 v4) (a : Int) : SinkBlk g (w.setCell ⟨g, 1, none⟩ (.int .i64 a)) { s with at_ := a } v0 v2 v3 v4 := blk_put h 1 (.int .i64 a) rfl
theorem SinkBlk.set3 {g : Nat} {w : World} {s : SK} {v0 v2 v3 v4 : Value} (h : SinkBlk g w s v0 v2 v3 v4) (v : Value) : SinkBlk g (w.setCell ⟨g, 3, none⟩ v) s v0 v2 v v4 := blk_put h 3 v rfl
theorem SinkBlk.set4 {g : Nat} {w : World} {s : SK} {v0 v2 v3 v4 : Value} (h : SinkBlk g w s v0 v2 v3 v4) (v : Value) : SinkBlk g (w.setCell ⟨g, 4, none⟩ v) s v0 v2 v3 v := blk_put h 4 v rfl
theorem SinkBlk.set5 {g : Nat} {w : World} {s : SK} {v0 v2 v3 v4 : Value} (h : SinkBlk g w s v0 v2 v3 v4) (a : Int) : SinkBlk g (w.setCell ⟨g, 5, none⟩ (.int .i64 a)) { s with last := a } v0 v2 v3 v4 := blk_put h 5 (.int .i64 a) rfl
theorem SinkBlk.set6 {g : Nat} {w : World} {s : SK} {v0 v2 v3 v4 : Value} (h : SinkBlk g w s v0 v2 v3 v4) (a : Int) : SinkBlk g (w.setCell ⟨g, 6, none⟩ (.int .i64 a)) { s with upto := a } v0 v2 v3 v4 := blk_put h 6 (.int .i64 a) rfl
theorem SinkBlk.grown {g : Nat} {w w1 : World} {s : SK} {v0 v2 v3 v4 v : Value} {e : TypeId} (h : SinkBlk g w s v0 v2 v3 v4) (hg : w.grownBy w1 v.ownBlock) (ht : ∀ k, v.ownBlock = some k → ∃ cells, w.heap[k]? = some (.cells cells e (0, 0))) (he : e ≠ 28) : SinkBlk g w1 s v0 v2 v3 v4 :=
 (hg.block g (blk_lt h) (fun e' => by
  obtain ⟨cs, hcs⟩ := ht g e'.symm
  have h' := h
  unfold SinkBlk at h'
  rw [hcs] at h'
  injection h' with h'
  injection h' with _ h'
  exact he h')).trans h
theorem SinkRows.src_at {w : World} {base : Nat} {f : Nat → Nat} {s : SK} {ad : Addr} {n c : Nat} {v2 v3 v4 : Value} (h : SinkRows w base f s (.slice (some ad) n c) v2 v3 v4) (i : Int) (h0 : 0 ≤ i) (h1 : i < (s.src.length : Int)) : w.cell? (ad.add i.toNat) = some (.int .i64 (rd s.src i)) := by
 obtain ⟨ad', cs, eA, hcl, hK, hcell⟩ := Kd.C_get (Kd.R_reads' h.r0).2.2 0 i h0 h1
 obtain rfl := Option.some.inj eA
 have h_ := hcell 0 _ (by rw [show _ = _ from hK]; rfl)
 rw [show rd s.src i = s.src.getD i.toNat 0 from rfl]
 simpa [show (Kd.int .i64).sz = 1 from rfl] using h_
theorem SinkRows.src_some {w : World} {base : Nat} {f : Nat → Nat} {s : SK} {A : Option Addr} {n c : Nat} {v2 v3 v4 : Value} (h : SinkRows w base f s (.slice A n c) v2 v3 v4) (h1 : 0 < s.src.length) : ∃ ad, A = some ad := by
 obtain ⟨ad', cs, eA, _⟩ := Kd.C_get (Kd.R_reads' h.r0).2.2 0 0 (by omega) (by omega)
 exact ⟨ad', eA⟩
end Go.Proofs.Ytjndadjhhknggaa.Q
end
section
/- Sink.read: the next number of the source is pending then. -/
namespace Go.Proofs.Ytjndadjhhknggaa.Q
open Go.RowKit Go.Proofs.YtjndadjhhknggaaW.PrintWords Go.Proofs.YtjndadjhhknggaaW.PrintLast
set_option linter.unusedVariables false
set_option linter.unusedSimpArgs false
def T67_3 : Bool × List (List Nat × List Nat) := (true, [([], []), ([], []), ([1], [1]), ([2], [2]), ([3], [3]), ([], []), ([5], [5]), ([6], [6]), ([7], [7]), ([], []), ([9], [9]), ([10], [10]), ([11], [11]), ([8, 12], [8, 12]), ([13], [13]), ([14], [14]), ([4, 15], [4, 15]), ([0, 0, 1, 2, 3, 4, 5, 6, 7, 8, 9, 10, 11, 12, 13, 14, 15, 16], [0]), ([17, 0, 1, 2, 3, 4, 5, 6, 7, 8, 9, 10, 11, 12, 13, 14, 15, 16], [17]), ([18, 16, 16, 0, 1, 2, 3, 4, 5, 6, 7, 8, 9, 10, 11, 12, 13, 14, 15, 16], [16, 18])])
def B67_3 : List Nat := [0, 0, 2, 6, 14, 0, 32, 96, 224, 0, 512, 1536, 3584, 8160, 16352, 32736, 65534, 131071, 262143, 524287]
theorem tab67_3 : rtab .any (opsOf Try.f67 3) = T67_3 := by kernel_rfl
theorem bits67_3 : waitsOk T67_3.2 B67_3 = true := by kernel_rfl
set_option maxHeartbeats 8000000 in
set_option maxRecDepth 100000 in
theorem read_calls (g : Nat) (s : SK) (w0 w : World) (h : SinkAt g w w0.heap.size s) (hok : SKOk s) (hB : Below w0.heap.size w0 w) (hgb : w0.heap.size ≤ g) :
  Calls Try.prog 67 #[.pointer (some ⟨g, 0, none⟩)] w fun e w' => StepRet g w0 w w' e s (stepK s 1) := by
 obtain ⟨f, v0, v2, v3, v4, hg, hr⟩ := h
 obtain ⟨A0, c0, rfl⟩ := Kd.R_slice hr.r0
 obtain ⟨A2, c2, rfl⟩ := Kd.R_slice hr.r2
 obtain ⟨A3, c3, rfl, hc3⟩ := Kd.Q_slice hr.r3
 obtain ⟨A4, c4, rfl⟩ := Kd.R_slice hr.r4
 have HG := Aside0.mk hg
 have HR := Aside0.mk hr
 have HOK := Aside0.mk hok
 have HB := Aside0.mk hB
 obtain ⟨g0, g1, g2, g3, g4, g5, g6⟩ := cells7_ hg
 have hu28 := Try.underlying28
 by_cases hat : s.at_ = s.src.length
 ·have hst : stepK s 1 = none := by simp [stepK, hat]
  rw [hst]
  have hat1 : (s.at_ == (s.src.length : Int)) = true := by simp [hat]
  clear hg hr hok hB hst hat
  go_enter Try.func67, Try.ntmps67
  go_upto_region 1 with fail
  go_region
  go_wp2
  go_ret
  exact ⟨rfl, ⟨f, _, _, _, _, HG.out, HR.out.below ((Below.refl _ _).drew)⟩, HB.out.drew, Spare.below ((Below.refl _ _).drew)⟩
 ·have hst : stepK s 1 = some { s with pend := s.pend ++ [rd s.src s.at_], at_ := s.at_ + 1 } := by simp [stepK, hat]
  rw [hst]
  have hat1 : (s.at_ == (s.src.length : Int)) = false := by simp [hat]
  have ha0 := hok.at0
  have ha1 : s.at_ < (s.src.length : Int) := by have := hok.at1; omega
  have ha2 : s.at_ ≤ 1000 := by have := hok.at1; have := hok.src; omega
  obtain ⟨ad, eA⟩ := hr.src_some (by omega)
  subst eA
  have HA := Aside0.mk hat
  clear hg hr hok hB hst hat
  go_enter Try.func67, Try.ntmps67
  go_upto_region 1 with fail
  go_region
  go_upto_region 3 with fail
  have HG := Aside0.mk (show SinkBlk g w.drew s _ _ _ _ from HG.out)
  have HR := Aside0.mk (HR.out.below ((Below.refl _ w).drew))
  have HB := Aside0.mk HB.out.drew
  have HSP := Aside0.mk (Spare.below (g := g) ((Below.refl _ w).drew))
  generalize w.drew = w1 at HG HR HB HSP ⊢
  clear g0 g1 g2 g3 g4 g5 g6
  have hdr_ : Below w1.heap.size w1 w1.drew := (Below.refl _ _).drew
  have HG := Aside0.mk (HG.out.below hdr_)
  have HR := Aside0.mk (HR.out.below hdr_)
  have HB := Aside0.mk HB.out.drew
  have HSP := Aside0.mk (HSP.out.trans (Spare.below hdr_))
  clear hdr_
  refine mS [19] (S := fun w' => w'.cell? ⟨g, 0, none⟩ = some (.slice (some ad) s.src.length c0) ∧ w'.cell? ⟨g, 1, none⟩ = some (.int .i64 s.at_) ∧ w'.cell? ⟨g, 2, none⟩ = some (.slice A2 s.pend.length c2) ∧ w'.cell? (ad.add s.at_.toNat) = some (.int .i64 (rd s.src s.at_))) tab67_3 bits67_3 (by kernel_rfl) rfl ⟨(cells7_ HG.out).1, (cells7_ HG.out).2.1, (cells7_ HG.out).2.2.1, HR.out.src_at _ ha0 ha1⟩ (fun hS_ HT_ HW_ => ?_)
  refine mL 0 0 1 (N := some 13) (v := ?_) (a' := ?_) HT_ HW_ rfl rfl (by kernel_rfl) (fun _ _ _ h => h) hS_ (by rfl) ?_ ?_ ?_; rotate_left 2; (rintro w' ⟨s0, s1, s2, s3⟩; go_simp; with_reducible rfl); (simp only [Act.put, sT, s0, s1, i64_w, i32_w]; rfl)
  refine mL 1 1 3 (N := some 14) (v := ?_) (a' := ?_) HT_ HW_ rfl rfl (by kernel_rfl) (fun _ _ _ h => h) hS_ (by rfl) ?_ ?_ ?_; rotate_left 2; (rintro w' ⟨s0, s1, s2, s3⟩; go_simp; with_reducible rfl); (simp only [Act.put, sT, s0, s1, i64_w, i32_w]; rfl)
  refine mL 2 3 7 (N := some 15) (v := ?_) (a' := ?_) HT_ HW_ rfl rfl (by kernel_rfl) (fun _ _ _ h => h) hS_ (by rfl) ?_ ?_ ?_; rotate_left 2; (rintro w' ⟨s0, s1, s2, s3⟩; go_simp; with_reducible rfl); (simp only [Act.put, sT, s0, s1, i64_w, i32_w]; rfl)
  refine mL 3 7 15 (N := some 16) (v := ?_) (a' := ?_) HT_ HW_ rfl rfl (by kernel_rfl) (fun _ _ _ h => h) hS_ (by rfl) ?_ ?_ ?_; rotate_left 2; (rintro w' ⟨s0, s1, s2, s3⟩; go_simp; with_reducible rfl); (simp only [Act.put, sT, s0, s1, i64_w, i32_w]; rfl)
  refine mL 4 15 31 (N := some 17) (v := ?_) (a' := ?_) HT_ HW_ rfl rfl (by kernel_rfl) (fun _ _ _ h => h) hS_ (by rfl) ?_ ?_ ?_; rotate_left 2; (rintro w' ⟨s0, s1, s2, s3⟩; go_simp; with_reducible rfl); (simp only [Act.put, sT, s0, s1, i64_w, i32_w]; rfl)
  refine mL 5 31 63 (N := some 18) (v := ?_) (a' := ?_) HT_ HW_ rfl rfl (by kernel_rfl) (fun _ _ _ h => h) hS_ (by rfl) ?_ ?_ ?_; rotate_left 2; (rintro w' ⟨s0, s1, s2, s3⟩; go_simp; with_reducible rfl); (simp only [Act.put, sT, s0, s1, i64_w, i32_w]; rfl)
  refine mL 6 63 127 (N := some 19) (v := ?_) (a' := ?_) HT_ HW_ rfl rfl (by kernel_rfl) (fun _ _ _ h => h) hS_ (by rfl) ?_ ?_ ?_; rotate_left 2; (rintro w' ⟨s0, s1, s2, s3⟩; go_simp; with_reducible rfl); (simp only [Act.put, sT, s0, s1, i64_w, i32_w]; rfl)
  refine mL 7 127 255 (N := some 20) (v := ?_) (a' := ?_) HT_ HW_ rfl rfl (by kernel_rfl) (fun _ _ _ h => h) hS_ (by rfl) ?_ ?_ ?_; rotate_left 2; (rintro w' ⟨s0, s1, s2, s3⟩; go_simp; with_reducible rfl); (simp only [Act.put, sT, s0, s1, i64_w, i32_w]; rfl)
  refine mL 8 255 511 (N := some 21) (v := ?_) (a' := ?_) HT_ HW_ rfl rfl (by kernel_rfl) (fun _ _ _ h => h) hS_ (by rfl) ?_ ?_ ?_; rotate_left 2; (rintro w' ⟨s0, s1, s2, s3⟩; go_simp; with_reducible rfl); (simp only [Act.put, sT, s0, s1, i64_w, i32_w]; rfl)
  refine mL 9 511 1023 (N := some 22) (v := ?_) (a' := ?_) HT_ HW_ rfl rfl (by kernel_rfl) (fun _ _ _ h => h) hS_ (by rfl) ?_ ?_ ?_; rotate_left 2; (rintro w' ⟨s0, s1, s2, s3⟩; go_simp; with_reducible rfl); (simp only [Act.put, sT, s0, s1, i64_w, i32_w]; rfl)
  refine mL 10 1023 2047 (N := some 23) (v := ?_) (a' := ?_) HT_ HW_ rfl rfl (by kernel_rfl) (fun _ _ _ h => h) hS_ (by rfl) ?_ ?_ ?_; rotate_left 2; (rintro w' ⟨s0, s1, s2, s3⟩; go_simp; with_reducible rfl); (simp only [Act.put, sT, s0, s1, i64_w, i32_w]; rfl)
  refine mL 11 2047 4095 (N := some 24) (v := ?_) (a' := ?_) HT_ HW_ rfl rfl (by kernel_rfl) (fun _ _ _ h => h) hS_ (by rfl) ?_ ?_ ?_; rotate_left 2; (rintro w' ⟨s0, s1, s2, s3⟩; go_simp; with_reducible rfl); (simp only [Act.put, sT, s0, s1, i64_w, i32_w]; rfl)
  refine mL 12 4095 8191 (N := some 25) (v := ?_) (a' := ?_) HT_ HW_ rfl rfl (by kernel_rfl) (fun _ _ _ h => h) hS_ (by rfl) ?_ ?_ ?_; rotate_left 2; (rintro w' ⟨s0, s1, s2, s3⟩; go_simp; with_reducible rfl); (simp only [Act.put, sT, s0, s1, i64_w, i32_w]; rfl)
  refine mL 13 8191 16383 (N := some 26) (v := ?_) (a' := ?_) HT_ HW_ rfl rfl (by kernel_rfl) (fun _ _ _ h => h) hS_ (by rfl) ?_ ?_ ?_; rotate_left 2; (rintro w' ⟨s0, s1, s2, s3⟩; go_simp; with_reducible rfl); (simp only [Act.put, sT, s0, s1, i64_w, i32_w]; rfl)
  refine mL 14 16383 32767 (N := some 27) (v := ?_) (a' := ?_) HT_ HW_ rfl rfl (by kernel_rfl) (fun _ _ _ h => h) hS_ (by rfl) ?_ ?_ ?_; rotate_left 2; (rintro w' ⟨s0, s1, s2, s3⟩; go_simp; with_reducible rfl); (simp only [Act.put, sT, s0, s1, i64_w, i32_w]; rfl)
  refine one_ (i := 15) (N := some 28) (lB 20 65535) rfl rfl (one_of HT_.out (by kernel_rfl)) (by decide) (fun K hK => ?_)
  generalize w1.drew = w2 at HG HR HB HSP ⊢
  refine event_step (w1 := w2.alloc (.cells #[.int .i64 (rd s.src s.at_)] 3)) (v := .slice (some ⟨w2.heap.size, 0, none⟩) 1 1) (by rfl) (by first | (go_simp; done) | (go_simp; rfl)) ?_
  have hl_ : Below w2.heap.size w2 (w2.alloc (.cells #[.int .i64 (rd s.src s.at_)] 3)) := below_alloc (Below.refl _ _) _
  refine hK.out _ _ ⟨(cells7_ (HG.out.below hl_)).1, (cells7_ (HG.out.below hl_)).2.1, (cells7_ (HG.out.below hl_)).2.2.1, (HR.out.below hl_).src_at _ ha0 ha1⟩ (fun hS_ => ?_)
  clear hK K hl_
  refine norm_ (a' := ?_) ?_ ?_
  rotate_left
  (show Act.put _ (some 28) _ = _; simp only [Act.put, sT, s0, s1, i64_w, i32_w]; rfl)
  have hrc := HR.out.recol w2.heap.size 2 (Nat.le_refl _)
  have HRC := Aside0.mk hrc; clear hrc HR
  refine one_ (i := 16) (N := some 29) (lB 20 131071) rfl rfl (one_of HT_.out (by kernel_rfl)) (by decide) (fun K hK => ?_)
  refine Kd.R_append_step (Kd.int .i64) (w0 := w0) w0.heap.size (by rfl) (.tmp 17) (.tmp 28) 23 3 _ 8 rfl Try.underlying23 info3_ rfl (by decide) (by omega) _ s.pend (rd s.src s.at_) [.int .i64 (rd s.src s.at_)] (fun k => recol f w2.heap.size 2 k = 2) (fun _ => False) (by rfl) (by rfl) rfl (fun _ h => h.elim) (fun k hk => recol_ge hk) HRC.out.r2 HB.out HB.out.size (by have := HOK.out.pend; omega) ?_
  intro v5 w5 hr5 hb5 hg5 hat5
  obtain ⟨A5, c5, rfl⟩ := Kd.R_slice hr5
  have hG5 := HG.out.grown hg5 (R_typed3 HRC.out.r2) (by decide)
  have hR5 := HRC.out.pend hg5 _ hr5
  have hS5 := HSP.out.trans (Spare.grown hg5 (R_typed3 HRC.out.r2) (Or.inl rfl))
  have HG5 := Aside0.mk hG5; have HR5 := Aside0.mk hR5; have HS5 := Aside0.mk hS5; have HB5 := Aside0.mk hb5
  refine hK.out _ _ ⟨(cells7_ hG5).1, (cells7_ hG5).2.1, (cells7_ hG5).2.2.1, hR5.src_at _ ha0 ha1⟩ (fun hS_ => ?_)
  clear hK K hr5 hb5 hg5 hat5 hG5 hR5 hS5
  refine norm_ (a' := ?_) ?_ ?_
  rotate_left
  (show Act.put _ (some 29) _ = _; simp only [Act.put, sT, s0, s1, i64_w, i32_w]; rfl)
  refine mL 17 131071 262143 (N := some 30) (v := ?_) (a' := ?_) HT_ HW_ rfl rfl (by kernel_rfl) (fun _ _ _ h => h) hS_ (by rfl) ?_ ?_ ?_; rotate_left 2; (rintro w' ⟨s0, s1, s2, s3⟩; go_simp; with_reducible rfl); (simp only [Act.put, sT, s0, s1, i64_w, i32_w]; rfl)
  refine mL 18 262143 524287 (N := some 31) (v := ?_) (a' := ?_) HT_ HW_ rfl rfl (by kernel_rfl) (fun _ _ _ h => h) hS_ (by rfl) ?_ ?_ ?_; rotate_left 2; (rintro w' ⟨s0, s1, s2, s3⟩; go_simp; with_reducible rfl); (simp only [Act.put, sT, s0, s1, i64_w, i32_w]; rfl)
  refine last_ (i := 19) (N := none) (lB 20 1048575) rfl rfl (one_of HT_.out (by kernel_rfl)) (by decide) (fun K hK => ?_)
  obtain ⟨g0, g1, g2, g3, g4, g5, g6⟩ := cells7_ HG5.out
  have f2 := blk_frozen HG5.out 2
  refine skip_ (w1 := w5.setCell ⟨g, 2, none⟩ (.slice A5 (s.pend ++ [rd s.src s.at_]).length c5)) (by rfl) rfl (by first | (go_simp; done) | (go_simp; rfl)) ?_
  clear g0 g1 g2 g3 g4 g5 g6 f2
  have hG6 := HG5.out.set2 (.slice A5 (s.pend ++ [rd s.src s.at_]).length c5)
  have hR6 := HR5.out.set HG5.out 2 (.slice A5 (s.pend ++ [rd s.src s.at_]).length c5)
  have HS6 := Aside0.mk (HS5.out.trans (Spare.set g _ 2 (.slice A5 (s.pend ++ [rd s.src s.at_]).length c5)))
  have HB6 := Aside0.mk (HB5.out.setCell (p := ⟨g, 2, none⟩) hgb (.slice A5 (s.pend ++ [rd s.src s.at_]).length c5))
  generalize w5.setCell ⟨g, 2, none⟩ (.slice A5 (s.pend ++ [rd s.src s.at_]).length c5) = w6 at hG6 hR6 HS6 HB6 ⊢
  have HG6 := Aside0.mk hG6; have HR6 := Aside0.mk hR6; clear hG6 hR6
  refine hK.out _ _ ?_
  clear hK K
  refine mD HT_ (by kernel_rfl) ?_
  obtain ⟨g0, g1, g2, g3, g4, g5, g6⟩ := cells7_ HG6.out
  have f1 := blk_frozen HG6.out 1
  go_wp2
  go_ret
  exact ⟨rfl, ⟨_, _, _, _, _, HG6.out.set1 (s.at_ + 1), (HR6.out.set HG6.out 1 _).nums (s.at_ + 1) s.last s.upto⟩, HB6.out.setCell (p := ⟨g, 1, none⟩) hgb _, HS6.out.trans (Spare.set g _ 1 _)⟩
end Go.Proofs.Ytjndadjhhknggaa.Q
end
section
/- Sink.prepare: what is pending is stored then. -/
namespace Go.Proofs.Ytjndadjhhknggaa.Q
open Go.RowKit Go.Proofs.YtjndadjhhknggaaW.PrintWords Go.Proofs.YtjndadjhhknggaaW.PrintLast
set_option linter.unusedVariables false
set_option linter.unusedSimpArgs false
def T50_1 : Bool × List (List Nat × List Nat) := (true, [([], []), ([0], [0]), ([1], [1]), ([2], [2]), ([3], [3]), ([4], [4]), ([5], [5]), ([6], [6]), ([7, 6], [6, 7]), ([8, 6], [6, 8]), ([9, 6], [6, 9]), ([10, 6], [6, 10]), ([11, 6], [6, 11]), ([6, 12], [6, 12]), ([13, 6], [13]), ([14], [14]), ([15, 14], [14, 15]), ([16, 14], [14, 16]), ([17, 14], [14, 17]), ([14], [14]), ([19, 14], [14, 19]), ([20, 14], [14, 20]), ([21, 14], [14, 21]), ([22, 14], [14, 22]), ([18, 23, 14], [14, 18, 23]), ([24, 14], [14, 24]), ([14, 25], [14, 25])])
def B50_1 : List Nat := [0, 1, 3, 7, 15, 31, 63, 127, 255, 511, 1023, 2047, 4095, 8191, 16383, 32767, 65535, 131071, 262143, 32767, 557055, 1605631, 3702783, 7897087, 16777215, 33554431, 67108863]
theorem tab50_1 : rtab .any (opsOf Try.f50 1) = T50_1 := by kernel_rfl
theorem bits50_1 : waitsOk T50_1.2 B50_1 = true := by kernel_rfl
def T50_3 : Bool × List (List Nat × List Nat) := (true, [([], []), ([], []), ([1], [1]), ([2], [2]), ([3], [3]), ([], []), ([5], [5]), ([6], [6]), ([7], [7]), ([], []), ([9], [9]), ([10], [10]), ([11], [11]), ([12], [12]), ([8, 13], [8, 13]), ([14], [14]), ([], []), ([16], [16]), ([17], [17]), ([18], [18]), ([], []), ([20], [20]), ([21], [21]), ([22], [22]), ([15, 19, 23], [15, 19, 23]), ([24], [24]), ([4, 25], [4, 25]), ([0, 0, 1, 2, 3, 4, 5, 6, 7, 8, 9, 10, 11, 12, 13, 14, 15, 16, 17, 18, 19, 20, 21, 22, 23, 24, 25, 26], [0]), ([27, 0, 1, 2, 3, 4, 5, 6, 7, 8, 9, 10, 11, 12, 13, 14, 15, 16, 17, 18, 19, 20, 21, 22, 23, 24, 25, 26], [27]), ([28, 26, 26, 0, 1, 2, 3, 4, 5, 6, 7, 8, 9, 10, 11, 12, 13, 14, 15, 16, 17, 18, 19, 20, 21, 22, 23, 24, 25, 26], [26, 28])])
def B50_3 : List Nat := [0, 0, 2, 6, 14, 0, 32, 96, 224, 0, 512, 1536, 3584, 7680, 16352, 32736, 0, 65536, 196608, 458752, 0, 1048576, 3145728, 7340032, 16777184, 33554400, 67108862, 134217727, 268435455, 536870911]
theorem tab50_3 : rtab .any (opsOf Try.f50 3) = T50_3 := by kernel_rfl
theorem bits50_3 : waitsOk T50_3.2 B50_3 = true := by kernel_rfl
/-- The colours behind a prepare: what was pending is stored, what is new too. -/
def prepcol (f : Nat → Nat) (n : Nat) : Nat → Nat := fun k => if k < n then (if f k = 2 then 3 else f k) else 3
theorem SinkRows.prep {w w' : World} {base : Nat} {f : Nat → Nat} {s : SK} {v0 v2 v3 v4 v' : Value} (h : SinkRows w base f s v0 v2 v3 v4) (hg : w.grownBy w' v3.ownBlock) (l : List S68) (hr : Kd.Q k68 68 w' base (fun k => prepcol f w.heap.size k = 3) v' l) : SinkRows w' base (prepcol f w.heap.size) { s with stored := l, pend := [] } v0 (.slice none 0 0) v' v4 := by
 have hne : ∀ (c : Nat), c ≠ 3 → ∀ k, f k = c → some k ≠ v3.ownBlock := fun c hc k hk e => hc (hk.symm.trans (h.r3.1 k e.symm))
 have hcol : ∀ (c : Nat), c ≠ 2 → ∀ k, k < w.heap.size → f k = c → prepcol f w.heap.size k = c := fun c hc k hk e => by
  unfold prepcol
  rw [if_pos hk, if_neg (by omega)]
  exact e
 exact ⟨Kd.R_mono (Kd.R_grown (Kd.R_bound h.r0) hg (fun k hk => hne 0 (by decide) k hk.1)) (fun k hk => hcol 0 (by decide) k hk.2.2.1 hk.1), Kd.R_nil _ _ _ _ _, hr, Kd.R_mono (Kd.R_grown (Kd.R_bound h.r4) hg (fun k hk => hne 4 (by decide) k hk.1)) (fun k hk => hcol 4 (by decide) k hk.2.2.1 hk.1)⟩
theorem R_typed68 {w : World} {base : Nat} {ok : Nat → Prop} {v : Value} {xs : List S68} (h : Kd.Q k68 68 w base ok v xs) : ∀ k, v.ownBlock = some k → ∃ cells, w.heap[k]? = some (.cells cells 68 (0, 0)) := Kd.Q_typed h
set_option maxHeartbeats 8000000 in
set_option maxRecDepth 100000 in
theorem prepare_calls (g : Nat) (s : SK) (w0 w : World) (h : SinkAt g w w0.heap.size s) (hok : SKOk s) (hB : Below w0.heap.size w0 w) (hgb : w0.heap.size ≤ g) :
  Calls Try.prog 50 #[.pointer (some ⟨g, 0, none⟩)] w fun e w' => StepRet g w0 w w' e s (stepK s 2) := by
 obtain ⟨f, v0, v2, v3, v4, hg, hr⟩ := h
 obtain ⟨A0, c0, rfl⟩ := Kd.R_slice hr.r0
 obtain ⟨A2, c2, rfl⟩ := Kd.R_slice hr.r2
 obtain ⟨A3, c3, rfl, hc3⟩ := Kd.Q_slice hr.r3
 obtain ⟨A4, c4, rfl⟩ := Kd.R_slice hr.r4
 have HG := Aside0.mk hg
 have HR := Aside0.mk hr
 have HOK := Aside0.mk hok
 have HB := Aside0.mk hB
 obtain ⟨g0, g1, g2, g3, g4, g5, g6⟩ := cells7_ hg
 have hu28 := Try.underlying28
 have HL := Aside0.mk hok
 have hl0 := hok.last0
 have hl1 := hok.last1
 have hl2 := hok.stored
 have hw1 : IntKind.i64.wrap (s.last + (s.stored.length : Int)) = s.last + (s.stored.length : Int) := IntWalk.i64_in _ (by omega)
 have hw2 : IntKind.i64.wrap (s.last + (s.stored.length : Int) + 1) = s.last + (s.stored.length : Int) + 1 := IntWalk.i64_in _ (by omega)
 by_cases q1 : s.pend.length = 0
 ·have t1 : ((s.pend.length : Int) == 0) = true := by rw [beq_iff_eq]; omega
  have hst : stepK s 2 = none := by simp [stepK, q1]
  rw [hst]
  clear hst hg hr hok hB
  go_enter Try.func50, Try.ntmps50
  go_upto_region 1 with fail
  have hdr_ : Below w.heap.size w w.drew := (Below.refl _ w).drew
  have HG := Aside0.mk (HG.out.below hdr_)
  have HR := Aside0.mk (HR.out.below hdr_)
  have HB := Aside0.mk HB.out.drew
  have HSP := Aside0.mk (Spare.below (g := g) hdr_)
  clear hdr_ g0 g1 g2 g3 g4 g5 g6
  refine mS [] (S := fun w' => w'.cell? ⟨g, 1, none⟩ = some (.int .i64 s.at_) ∧ w'.cell? ⟨g, 2, none⟩ = some (.slice A2 s.pend.length c2) ∧ w'.cell? ⟨g, 3, none⟩ = some (.slice A3 s.stored.length c3) ∧ w'.cell? ⟨g, 5, none⟩ = some (.int .i64 s.last)) tab50_1 bits50_1 (by kernel_rfl) rfl ⟨(cells7_ HG.out).2.1, (cells7_ HG.out).2.2.1, (cells7_ HG.out).2.2.2.1, (cells7_ HG.out).2.2.2.2.2.1⟩ (fun hS_ HT_ HW_ => ?_)
  generalize w.drew = w1 at HG HR HB HSP hS_ ⊢
  refine mL 0 0 1 (N := some 3) (v := ?_) (a' := ?_) HT_ HW_ rfl rfl (by kernel_rfl) (fun _ _ _ h => h) hS_ (by rfl) ?_ ?_ ?_; rotate_left 2; (rintro w' ⟨s0, s1, s2, s3⟩; go_simp; with_reducible rfl); (simp only [Act.put, sT, s0, s1, i64_w, i32_w]; rfl)
  refine mL 1 1 3 (N := some 4) (v := ?_) (a' := ?_) HT_ HW_ rfl rfl (by kernel_rfl) (fun _ _ _ h => h) hS_ (by rfl) ?_ ?_ ?_; rotate_left 2; (rintro w' ⟨s0, s1, s2, s3⟩; go_simp; with_reducible rfl); (simp only [Act.put, sT, s0, s1, i64_w, i32_w]; rfl)
  refine mL 2 3 7 (N := some 5) (v := ?_) (a' := ?_) HT_ HW_ rfl rfl (by kernel_rfl) (fun _ _ _ h => h) hS_ (by rfl) ?_ ?_ ?_; rotate_left 2; (rintro w' ⟨s0, s1, s2, s3⟩; go_simp; with_reducible rfl); (simp only [Act.put, sT, s0, s1, i64_w, i32_w]; rfl)
  refine mL 3 7 15 (N := some 6) (v := ?_) (a' := ?_) HT_ HW_ rfl rfl (by kernel_rfl) (fun _ _ _ h => h) hS_ (by rfl) ?_ ?_ ?_; rotate_left 2; (rintro w' ⟨s0, s1, s2, s3⟩; go_simp; with_reducible rfl); (simp only [Act.put, sT, s0, s1, i64_w, i32_w]; rfl)
  refine mL 4 15 31 (N := some 7) (v := ?_) (a' := ?_) HT_ HW_ rfl rfl (by kernel_rfl) (fun _ _ _ h => h) hS_ (by rfl) ?_ ?_ ?_; rotate_left 2; (rintro w' ⟨s0, s1, s2, s3⟩; go_simp; with_reducible rfl); (simp only [Act.put, sT, s0, s1, i64_w, i32_w]; rfl)
  refine mL 5 31 63 (N := some 8) (v := ?_) (a' := ?_) HT_ HW_ rfl rfl (by kernel_rfl) (fun _ _ _ h => h) hS_ (by rfl) ?_ ?_ ?_; rotate_left 2; (rintro w' ⟨s0, s1, s2, s3⟩; go_simp; with_reducible rfl); (simp only [Act.put, sT, s0, s1, i64_w, i32_w]; rfl)
  refine mL 6 63 127 (N := some 9) (v := ?_) (a' := ?_) HT_ HW_ rfl rfl (by kernel_rfl) (fun _ _ _ h => h) hS_ (by rfl) ?_ ?_ ?_; rotate_left 2; (rintro w' ⟨s0, s1, s2, s3⟩; go_simp; with_reducible rfl); (simp only [Act.put, sT, s0, s1, i64_w, i32_w]; rfl)
  refine mU 7 127 255 (N := some 10) (a' := ?_) HT_ HW_ rfl rfl (by kernel_rfl) (fun _ _ _ h => h) hS_ (by rfl) ?_ ?_; rotate_left; (simp only [Act.put, sT, s0, s1, i64_w, i32_w]; rfl)
  refine mU 8 255 511 (N := some 11) (a' := ?_) HT_ HW_ rfl rfl (by kernel_rfl) (fun _ _ _ h => h) hS_ (by rfl) ?_ ?_; rotate_left; (simp only [Act.put, sT, s0, s1, i64_w, i32_w]; rfl)
  refine mU 9 511 1023 (N := some 12) (a' := ?_) HT_ HW_ rfl rfl (by kernel_rfl) (fun _ _ _ h => h) hS_ (by rfl) ?_ ?_; rotate_left; (simp only [Act.put, sT, s0, s1, i64_w, i32_w]; rfl)
  refine mU 10 1023 2047 (N := some 13) (a' := ?_) HT_ HW_ rfl rfl (by kernel_rfl) (fun _ _ _ h => h) hS_ (by rfl) ?_ ?_; rotate_left; (simp only [Act.put, sT, s0, s1, i64_w, i32_w]; rfl)
  refine mU 11 2047 4095 (N := some 14) (a' := ?_) HT_ HW_ rfl rfl (by kernel_rfl) (fun _ _ _ h => h) hS_ (by rfl) ?_ ?_; rotate_left; (simp only [Act.put, sT, s0, s1, i64_w, i32_w]; rfl)
  refine mU 12 4095 8191 (N := some 15) (a' := ?_) HT_ HW_ rfl rfl (by kernel_rfl) (fun _ _ _ h => h) hS_ (by rfl) ?_ ?_; rotate_left; (simp only [Act.put, sT, s0, s1, i64_w, i32_w]; rfl)
  refine mL 13 8191 16383 (N := some 16) (v := ?_) (a' := ?_) HT_ HW_ rfl rfl (by kernel_rfl) (fun _ _ _ h => h) hS_ (by rfl) ?_ ?_ ?_; rotate_left 2; (rintro w' ⟨s0, s1, s2, s3⟩; go_simp; with_reducible rfl); (simp only [Act.put, sT, s0, s1, i64_w, i32_w]; rfl)
  refine mL 14 16383 32767 (N := some 17) (v := ?_) (a' := ?_) HT_ HW_ rfl rfl (by kernel_rfl) (fun _ _ _ h => h) hS_ (by rfl) ?_ ?_ ?_; rotate_left 2; (rintro w' ⟨s0, s1, s2, s3⟩; go_simp; with_reducible rfl); (simp only [Act.put, sT, s0, s1, i64_w, i32_w]; rfl)
  refine mU 15 32767 65535 (N := some 18) (a' := ?_) HT_ HW_ rfl rfl (by kernel_rfl) (fun _ _ _ h => h) hS_ (by rfl) ?_ ?_; rotate_left; (simp only [Act.put, sT, s0, s1, i64_w, i32_w]; rfl)
  refine mU 16 65535 131071 (N := some 19) (a' := ?_) HT_ HW_ rfl rfl (by kernel_rfl) (fun _ _ _ h => h) hS_ (by rfl) ?_ ?_; rotate_left; (simp only [Act.put, sT, s0, s1, i64_w, i32_w]; rfl)
  refine mU 17 131071 262143 (N := some 20) (a' := ?_) HT_ HW_ rfl rfl (by kernel_rfl) (fun _ _ _ h => h) hS_ (by rfl) ?_ ?_; rotate_left; (simp only [Act.put, sT, s0, s1, i64_w, i32_w]; rfl)
  refine mU 18 262143 524287 (N := some 21) (a' := ?_) HT_ HW_ rfl rfl (by kernel_rfl) (fun _ _ _ h => h) hS_ (by rfl) ?_ ?_; rotate_left; (simp only [Act.put, sT, s0, s1, i64_w, i32_w]; rfl)
  refine mU 19 524287 1048575 (N := some 22) (a' := ?_) HT_ HW_ rfl rfl (by kernel_rfl) (fun _ _ _ h => h) hS_ (by rfl) ?_ ?_; rotate_left; (simp only [Act.put, sT, s0, s1, i64_w, i32_w]; rfl)
  refine mU 20 1048575 2097151 (N := some 23) (a' := ?_) HT_ HW_ rfl rfl (by kernel_rfl) (fun _ _ _ h => h) hS_ (by rfl) ?_ ?_; rotate_left; (simp only [Act.put, sT, s0, s1, i64_w, i32_w]; rfl)
  refine mU 21 2097151 4194303 (N := some 24) (a' := ?_) HT_ HW_ rfl rfl (by kernel_rfl) (fun _ _ _ h => h) hS_ (by rfl) ?_ ?_; rotate_left; (simp only [Act.put, sT, s0, s1, i64_w, i32_w]; rfl)
  refine mU 22 4194303 8388607 (N := some 25) (a' := ?_) HT_ HW_ rfl rfl (by kernel_rfl) (fun _ _ _ h => h) hS_ (by rfl) ?_ ?_; rotate_left; (simp only [Act.put, sT, s0, s1, i64_w, i32_w]; rfl)
  refine mU 23 8388607 16777215 (N := some 26) (a' := ?_) HT_ HW_ rfl rfl (by kernel_rfl) (fun _ _ _ h => h) hS_ (by rfl) ?_ ?_; rotate_left; (simp only [Act.put, sT, s0, s1, i64_w, i32_w]; rfl)
  refine mU 24 16777215 33554431 (N := some 27) (a' := ?_) HT_ HW_ rfl rfl (by kernel_rfl) (fun _ _ _ h => h) hS_ (by rfl) ?_ ?_; rotate_left; (simp only [Act.put, sT, s0, s1, i64_w, i32_w]; rfl)
  refine mU 25 33554431 67108863 (N := some 28) (a' := ?_) HT_ HW_ rfl rfl (by kernel_rfl) (fun _ _ _ h => h) hS_ (by rfl) ?_ ?_; rotate_left; (simp only [Act.put, sT, s0, s1, i64_w, i32_w]; rfl)
  refine mL 26 67108863 134217727 (N := some 29) (v := ?_) (a' := ?_) HT_ HW_ rfl rfl (by kernel_rfl) (fun _ _ _ h => h) hS_ (by rfl) ?_ ?_ ?_; rotate_left 2; (rintro w' ⟨s0, s1, s2, s3⟩; go_simp; with_reducible rfl); (simp only [Act.put, sT, s0, s1, i64_w, i32_w]; rfl)
  refine mD HT_ (by kernel_rfl) ?_
  go_wp2
  go_ret
  exact ⟨rfl, ⟨f, _, _, _, _, HG.out, HR.out⟩, HB.out, HSP.out⟩
 have t1 : ((s.pend.length : Int) == 0) = false := by rw [beq_eq_false_iff_ne]; omega
 by_cases q2 : 4 ≤ s.stored.length
 ·have t2 : (4 : Int) ≤ (s.stored.length : Int) := by omega
  have hst : stepK s 2 = none := by simp [stepK, q2]
  rw [hst]
  clear hst hg hr hok hB
  go_enter Try.func50, Try.ntmps50
  go_upto_region 1 with fail
  have hdr_ : Below w.heap.size w w.drew := (Below.refl _ w).drew
  have HG := Aside0.mk (HG.out.below hdr_)
  have HR := Aside0.mk (HR.out.below hdr_)
  have HB := Aside0.mk HB.out.drew
  have HSP := Aside0.mk (Spare.below (g := g) hdr_)
  clear hdr_ g0 g1 g2 g3 g4 g5 g6
  refine mS [] (S := fun w' => w'.cell? ⟨g, 1, none⟩ = some (.int .i64 s.at_) ∧ w'.cell? ⟨g, 2, none⟩ = some (.slice A2 s.pend.length c2) ∧ w'.cell? ⟨g, 3, none⟩ = some (.slice A3 s.stored.length c3) ∧ w'.cell? ⟨g, 5, none⟩ = some (.int .i64 s.last)) tab50_1 bits50_1 (by kernel_rfl) rfl ⟨(cells7_ HG.out).2.1, (cells7_ HG.out).2.2.1, (cells7_ HG.out).2.2.2.1, (cells7_ HG.out).2.2.2.2.2.1⟩ (fun hS_ HT_ HW_ => ?_)
  generalize w.drew = w1 at HG HR HB HSP hS_ ⊢
  refine mL 0 0 1 (N := some 3) (v := ?_) (a' := ?_) HT_ HW_ rfl rfl (by kernel_rfl) (fun _ _ _ h => h) hS_ (by rfl) ?_ ?_ ?_; rotate_left 2; (rintro w' ⟨s0, s1, s2, s3⟩; go_simp; with_reducible rfl); (simp only [Act.put, sT, s0, s1, i64_w, i32_w]; rfl)
  refine mL 1 1 3 (N := some 4) (v := ?_) (a' := ?_) HT_ HW_ rfl rfl (by kernel_rfl) (fun _ _ _ h => h) hS_ (by rfl) ?_ ?_ ?_; rotate_left 2; (rintro w' ⟨s0, s1, s2, s3⟩; go_simp; with_reducible rfl); (simp only [Act.put, sT, s0, s1, i64_w, i32_w]; rfl)
  refine mL 2 3 7 (N := some 5) (v := ?_) (a' := ?_) HT_ HW_ rfl rfl (by kernel_rfl) (fun _ _ _ h => h) hS_ (by rfl) ?_ ?_ ?_; rotate_left 2; (rintro w' ⟨s0, s1, s2, s3⟩; go_simp; with_reducible rfl); (simp only [Act.put, sT, s0, s1, i64_w, i32_w]; rfl)
  refine mL 3 7 15 (N := some 6) (v := ?_) (a' := ?_) HT_ HW_ rfl rfl (by kernel_rfl) (fun _ _ _ h => h) hS_ (by rfl) ?_ ?_ ?_; rotate_left 2; (rintro w' ⟨s0, s1, s2, s3⟩; go_simp; with_reducible rfl); (simp only [Act.put, sT, s0, s1, i64_w, i32_w]; rfl)
  refine mL 4 15 31 (N := some 7) (v := ?_) (a' := ?_) HT_ HW_ rfl rfl (by kernel_rfl) (fun _ _ _ h => h) hS_ (by rfl) ?_ ?_ ?_; rotate_left 2; (rintro w' ⟨s0, s1, s2, s3⟩; go_simp; with_reducible rfl); (simp only [Act.put, sT, s0, s1, i64_w, i32_w]; rfl)
  refine mL 5 31 63 (N := some 8) (v := ?_) (a' := ?_) HT_ HW_ rfl rfl (by kernel_rfl) (fun _ _ _ h => h) hS_ (by rfl) ?_ ?_ ?_; rotate_left 2; (rintro w' ⟨s0, s1, s2, s3⟩; go_simp; with_reducible rfl); (simp only [Act.put, sT, s0, s1, i64_w, i32_w]; rfl)
  refine mL 6 63 127 (N := some 9) (v := ?_) (a' := ?_) HT_ HW_ rfl rfl (by kernel_rfl) (fun _ _ _ h => h) hS_ (by rfl) ?_ ?_ ?_; rotate_left 2; (rintro w' ⟨s0, s1, s2, s3⟩; go_simp; with_reducible rfl); (simp only [Act.put, sT, s0, s1, i64_w, i32_w]; rfl)
  refine mL 7 127 255 (N := some 10) (v := ?_) (a' := ?_) HT_ HW_ rfl rfl (by kernel_rfl) (fun _ _ _ h => h) hS_ (by rfl) ?_ ?_ ?_; rotate_left 2; (rintro w' ⟨s0, s1, s2, s3⟩; go_simp; with_reducible rfl); (simp only [Act.put, sT, s0, s1, i64_w, i32_w]; rfl)
  refine mL 8 255 511 (N := some 11) (v := ?_) (a' := ?_) HT_ HW_ rfl rfl (by kernel_rfl) (fun _ _ _ h => h) hS_ (by rfl) ?_ ?_ ?_; rotate_left 2; (rintro w' ⟨s0, s1, s2, s3⟩; go_simp; with_reducible rfl); (simp only [Act.put, sT, s0, s1, i64_w, i32_w]; rfl)
  refine mL 9 511 1023 (N := some 12) (v := ?_) (a' := ?_) HT_ HW_ rfl rfl (by kernel_rfl) (fun _ _ _ h => h) hS_ (by rfl) ?_ ?_ ?_; rotate_left 2; (rintro w' ⟨s0, s1, s2, s3⟩; go_simp; with_reducible rfl); (simp only [Act.put, sT, s0, s1, i64_w, i32_w]; rfl)
  refine mL 10 1023 2047 (N := some 13) (v := ?_) (a' := ?_) HT_ HW_ rfl rfl (by kernel_rfl) (fun _ _ _ h => h) hS_ (by rfl) ?_ ?_ ?_; rotate_left 2; (rintro w' ⟨s0, s1, s2, s3⟩; go_simp; with_reducible rfl); (simp only [Act.put, sT, s0, s1, i64_w, i32_w]; rfl)
  refine mL 11 2047 4095 (N := some 14) (v := ?_) (a' := ?_) HT_ HW_ rfl rfl (by kernel_rfl) (fun _ _ _ h => h) hS_ (by rfl) ?_ ?_ ?_; rotate_left 2; (rintro w' ⟨s0, s1, s2, s3⟩; go_simp; with_reducible rfl); (simp only [Act.put, sT, s0, s1, i64_w, i32_w]; rfl)
  refine mL 12 4095 8191 (N := some 15) (v := ?_) (a' := ?_) HT_ HW_ rfl rfl (by kernel_rfl) (fun _ _ _ h => h) hS_ (by rfl) ?_ ?_ ?_; rotate_left 2; (rintro w' ⟨s0, s1, s2, s3⟩; go_simp; with_reducible rfl); (simp only [Act.put, sT, s0, s1, i64_w, i32_w]; rfl)
  refine mL 13 8191 16383 (N := some 16) (v := ?_) (a' := ?_) HT_ HW_ rfl rfl (by kernel_rfl) (fun _ _ _ h => h) hS_ (by rfl) ?_ ?_ ?_; rotate_left 2; (rintro w' ⟨s0, s1, s2, s3⟩; go_simp; with_reducible rfl); (simp only [Act.put, sT, s0, s1, i64_w, i32_w]; rfl)
  refine mL 14 16383 32767 (N := some 17) (v := ?_) (a' := ?_) HT_ HW_ rfl rfl (by kernel_rfl) (fun _ _ _ h => h) hS_ (by rfl) ?_ ?_ ?_; rotate_left 2; (rintro w' ⟨s0, s1, s2, s3⟩; go_simp; with_reducible rfl); (simp only [Act.put, sT, s0, s1, i64_w, i32_w]; rfl)
  refine mU 15 32767 65535 (N := some 18) (a' := ?_) HT_ HW_ rfl rfl (by kernel_rfl) (fun _ _ _ h => h) hS_ (by rfl) ?_ ?_; rotate_left; (simp only [Act.put, sT, s0, s1, i64_w, i32_w]; rfl)
  refine mU 16 65535 131071 (N := some 19) (a' := ?_) HT_ HW_ rfl rfl (by kernel_rfl) (fun _ _ _ h => h) hS_ (by rfl) ?_ ?_; rotate_left; (simp only [Act.put, sT, s0, s1, i64_w, i32_w]; rfl)
  refine mU 17 131071 262143 (N := some 20) (a' := ?_) HT_ HW_ rfl rfl (by kernel_rfl) (fun _ _ _ h => h) hS_ (by rfl) ?_ ?_; rotate_left; (simp only [Act.put, sT, s0, s1, i64_w, i32_w]; rfl)
  refine mU 18 262143 524287 (N := some 21) (a' := ?_) HT_ HW_ rfl rfl (by kernel_rfl) (fun _ _ _ h => h) hS_ (by rfl) ?_ ?_; rotate_left; (simp only [Act.put, sT, s0, s1, i64_w, i32_w]; rfl)
  refine mU 19 524287 1048575 (N := some 22) (a' := ?_) HT_ HW_ rfl rfl (by kernel_rfl) (fun _ _ _ h => h) hS_ (by rfl) ?_ ?_; rotate_left; (simp only [Act.put, sT, s0, s1, i64_w, i32_w]; rfl)
  refine mU 20 1048575 2097151 (N := some 23) (a' := ?_) HT_ HW_ rfl rfl (by kernel_rfl) (fun _ _ _ h => h) hS_ (by rfl) ?_ ?_; rotate_left; (simp only [Act.put, sT, s0, s1, i64_w, i32_w]; rfl)
  refine mU 21 2097151 4194303 (N := some 24) (a' := ?_) HT_ HW_ rfl rfl (by kernel_rfl) (fun _ _ _ h => h) hS_ (by rfl) ?_ ?_; rotate_left; (simp only [Act.put, sT, s0, s1, i64_w, i32_w]; rfl)
  refine mU 22 4194303 8388607 (N := some 25) (a' := ?_) HT_ HW_ rfl rfl (by kernel_rfl) (fun _ _ _ h => h) hS_ (by rfl) ?_ ?_; rotate_left; (simp only [Act.put, sT, s0, s1, i64_w, i32_w]; rfl)
  refine mU 23 8388607 16777215 (N := some 26) (a' := ?_) HT_ HW_ rfl rfl (by kernel_rfl) (fun _ _ _ h => h) hS_ (by rfl) ?_ ?_; rotate_left; (simp only [Act.put, sT, s0, s1, i64_w, i32_w]; rfl)
  refine mU 24 16777215 33554431 (N := some 27) (a' := ?_) HT_ HW_ rfl rfl (by kernel_rfl) (fun _ _ _ h => h) hS_ (by rfl) ?_ ?_; rotate_left; (simp only [Act.put, sT, s0, s1, i64_w, i32_w]; rfl)
  refine mU 25 33554431 67108863 (N := some 28) (a' := ?_) HT_ HW_ rfl rfl (by kernel_rfl) (fun _ _ _ h => h) hS_ (by rfl) ?_ ?_; rotate_left; (simp only [Act.put, sT, s0, s1, i64_w, i32_w]; rfl)
  refine mL 26 67108863 134217727 (N := some 29) (v := ?_) (a' := ?_) HT_ HW_ rfl rfl (by kernel_rfl) (fun _ _ _ h => h) hS_ (by rfl) ?_ ?_ ?_; rotate_left 2; (rintro w' ⟨s0, s1, s2, s3⟩; go_simp; with_reducible rfl); (simp only [Act.put, sT, s0, s1, i64_w, i32_w]; rfl)
  refine mD HT_ (by kernel_rfl) ?_
  go_wp2
  go_ret
  exact ⟨rfl, ⟨f, _, _, _, _, HG.out, HR.out⟩, HB.out, HSP.out⟩
 have t2 : ¬ (4 : Int) ≤ (s.stored.length : Int) := by omega
 by_cases q3 : 1000 ≤ s.last + (s.stored.length : Int)
 ·have hst : stepK s 2 = none := by simp [stepK, q3]
  rw [hst]
  clear hst hg hr hok hB
  go_enter Try.func50, Try.ntmps50
  go_upto_region 1 with fail
  have hdr_ : Below w.heap.size w w.drew := (Below.refl _ w).drew
  have HG := Aside0.mk (HG.out.below hdr_)
  have HR := Aside0.mk (HR.out.below hdr_)
  have HB := Aside0.mk HB.out.drew
  have HSP := Aside0.mk (Spare.below (g := g) hdr_)
  clear hdr_ g0 g1 g2 g3 g4 g5 g6
  refine mS [] (S := fun w' => w'.cell? ⟨g, 1, none⟩ = some (.int .i64 s.at_) ∧ w'.cell? ⟨g, 2, none⟩ = some (.slice A2 s.pend.length c2) ∧ w'.cell? ⟨g, 3, none⟩ = some (.slice A3 s.stored.length c3) ∧ w'.cell? ⟨g, 5, none⟩ = some (.int .i64 s.last)) tab50_1 bits50_1 (by kernel_rfl) rfl ⟨(cells7_ HG.out).2.1, (cells7_ HG.out).2.2.1, (cells7_ HG.out).2.2.2.1, (cells7_ HG.out).2.2.2.2.2.1⟩ (fun hS_ HT_ HW_ => ?_)
  generalize w.drew = w1 at HG HR HB HSP hS_ ⊢
  refine mL 0 0 1 (N := some 3) (v := ?_) (a' := ?_) HT_ HW_ rfl rfl (by kernel_rfl) (fun _ _ _ h => h) hS_ (by rfl) ?_ ?_ ?_; rotate_left 2; (rintro w' ⟨s0, s1, s2, s3⟩; go_simp; with_reducible rfl); (simp only [Act.put, sT, s0, s1, i64_w, i32_w]; rfl)
  refine mL 1 1 3 (N := some 4) (v := ?_) (a' := ?_) HT_ HW_ rfl rfl (by kernel_rfl) (fun _ _ _ h => h) hS_ (by rfl) ?_ ?_ ?_; rotate_left 2; (rintro w' ⟨s0, s1, s2, s3⟩; go_simp; with_reducible rfl); (simp only [Act.put, sT, s0, s1, i64_w, i32_w]; rfl)
  refine mL 2 3 7 (N := some 5) (v := ?_) (a' := ?_) HT_ HW_ rfl rfl (by kernel_rfl) (fun _ _ _ h => h) hS_ (by rfl) ?_ ?_ ?_; rotate_left 2; (rintro w' ⟨s0, s1, s2, s3⟩; go_simp; with_reducible rfl); (simp only [Act.put, sT, s0, s1, i64_w, i32_w]; rfl)
  refine mL 3 7 15 (N := some 6) (v := ?_) (a' := ?_) HT_ HW_ rfl rfl (by kernel_rfl) (fun _ _ _ h => h) hS_ (by rfl) ?_ ?_ ?_; rotate_left 2; (rintro w' ⟨s0, s1, s2, s3⟩; go_simp; with_reducible rfl); (simp only [Act.put, sT, s0, s1, i64_w, i32_w]; rfl)
  refine mL 4 15 31 (N := some 7) (v := ?_) (a' := ?_) HT_ HW_ rfl rfl (by kernel_rfl) (fun _ _ _ h => h) hS_ (by rfl) ?_ ?_ ?_; rotate_left 2; (rintro w' ⟨s0, s1, s2, s3⟩; go_simp; with_reducible rfl); (simp only [Act.put, sT, s0, s1, i64_w, i32_w]; rfl)
  refine mL 5 31 63 (N := some 8) (v := ?_) (a' := ?_) HT_ HW_ rfl rfl (by kernel_rfl) (fun _ _ _ h => h) hS_ (by rfl) ?_ ?_ ?_; rotate_left 2; (rintro w' ⟨s0, s1, s2, s3⟩; go_simp; with_reducible rfl); (simp only [Act.put, sT, s0, s1, i64_w, i32_w]; rfl)
  refine mL 6 63 127 (N := some 9) (v := ?_) (a' := ?_) HT_ HW_ rfl rfl (by kernel_rfl) (fun _ _ _ h => h) hS_ (by rfl) ?_ ?_ ?_; rotate_left 2; (rintro w' ⟨s0, s1, s2, s3⟩; go_simp; with_reducible rfl); (simp only [Act.put, sT, s0, s1, i64_w, i32_w]; rfl)
  refine mL 7 127 255 (N := some 10) (v := ?_) (a' := ?_) HT_ HW_ rfl rfl (by kernel_rfl) (fun _ _ _ h => h) hS_ (by rfl) ?_ ?_ ?_; rotate_left 2; (rintro w' ⟨s0, s1, s2, s3⟩; go_simp; with_reducible rfl); (simp only [Act.put, sT, s0, s1, i64_w, i32_w]; rfl)
  refine mL 8 255 511 (N := some 11) (v := ?_) (a' := ?_) HT_ HW_ rfl rfl (by kernel_rfl) (fun _ _ _ h => h) hS_ (by rfl) ?_ ?_ ?_; rotate_left 2; (rintro w' ⟨s0, s1, s2, s3⟩; go_simp; with_reducible rfl); (simp only [Act.put, sT, s0, s1, i64_w, i32_w]; rfl)
  refine mL 9 511 1023 (N := some 12) (v := ?_) (a' := ?_) HT_ HW_ rfl rfl (by kernel_rfl) (fun _ _ _ h => h) hS_ (by rfl) ?_ ?_ ?_; rotate_left 2; (rintro w' ⟨s0, s1, s2, s3⟩; go_simp; with_reducible rfl); (simp only [Act.put, sT, s0, s1, i64_w, i32_w]; rfl)
  refine mL 10 1023 2047 (N := some 13) (v := ?_) (a' := ?_) HT_ HW_ rfl rfl (by kernel_rfl) (fun _ _ _ h => h) hS_ (by rfl) ?_ ?_ ?_; rotate_left 2; (rintro w' ⟨s0, s1, s2, s3⟩; go_simp; with_reducible rfl); (simp only [Act.put, sT, s0, s1, i64_w, i32_w]; rfl)
  refine mL 11 2047 4095 (N := some 14) (v := ?_) (a' := ?_) HT_ HW_ rfl rfl (by kernel_rfl) (fun _ _ _ h => h) hS_ (by rfl) ?_ ?_ ?_; rotate_left 2; (rintro w' ⟨s0, s1, s2, s3⟩; go_simp; with_reducible rfl); (simp only [Act.put, sT, s0, s1, i64_w, i32_w]; rfl)
  refine mL 12 4095 8191 (N := some 15) (v := ?_) (a' := ?_) HT_ HW_ rfl rfl (by kernel_rfl) (fun _ _ _ h => h) hS_ (by rfl) ?_ ?_ ?_; rotate_left 2; (rintro w' ⟨s0, s1, s2, s3⟩; go_simp; with_reducible rfl); (simp only [Act.put, sT, s0, s1, i64_w, i32_w]; rfl)
  refine mL 13 8191 16383 (N := some 16) (v := ?_) (a' := ?_) HT_ HW_ rfl rfl (by kernel_rfl) (fun _ _ _ h => h) hS_ (by rfl) ?_ ?_ ?_; rotate_left 2; (rintro w' ⟨s0, s1, s2, s3⟩; go_simp; with_reducible rfl); (simp only [Act.put, sT, s0, s1, i64_w, i32_w]; rfl)
  refine mL 14 16383 32767 (N := some 17) (v := ?_) (a' := ?_) HT_ HW_ rfl rfl (by kernel_rfl) (fun _ _ _ h => h) hS_ (by rfl) ?_ ?_ ?_; rotate_left 2; (rintro w' ⟨s0, s1, s2, s3⟩; go_simp; with_reducible rfl); (simp only [Act.put, sT, s0, s1, i64_w, i32_w]; rfl)
  refine mL 15 32767 65535 (N := some 18) (v := ?_) (a' := ?_) HT_ HW_ rfl rfl (by kernel_rfl) (fun _ _ _ h => h) hS_ (by rfl) ?_ ?_ ?_; rotate_left 2; (rintro w' ⟨s0, s1, s2, s3⟩; go_simp; with_reducible rfl); (simp only [Act.put, sT, s0, s1, i64_w, i32_w]; rfl)
  refine mL 16 65535 131071 (N := some 19) (v := ?_) (a' := ?_) HT_ HW_ rfl rfl (by kernel_rfl) (fun _ _ _ h => h) hS_ (by rfl) ?_ ?_ ?_; rotate_left 2; (rintro w' ⟨s0, s1, s2, s3⟩; go_simp; with_reducible rfl); (simp only [Act.put, sT, s0, s1, i64_w, i32_w]; rfl)
  refine mL 17 131071 262143 (N := some 20) (v := ?_) (a' := ?_) HT_ HW_ rfl rfl (by kernel_rfl) (fun _ _ _ h => h) hS_ (by rfl) ?_ ?_ ?_; rotate_left 2; (rintro w' ⟨s0, s1, s2, s3⟩; go_simp; with_reducible rfl); (simp only [Act.put, sT, s0, s1, i64_w, i32_w]; rfl)
  refine mL 18 262143 524287 (N := some 21) (v := ?_) (a' := ?_) HT_ HW_ rfl rfl (by kernel_rfl) (fun _ _ _ h => h) hS_ (by rfl) ?_ ?_ ?_; rotate_left 2; (rintro w' ⟨s0, s1, s2, s3⟩; go_simp; with_reducible rfl); (simp only [Act.put, sT, s0, s1, i64_w, i32_w]; rfl)
  refine mL 19 524287 1048575 (N := some 22) (v := ?_) (a' := ?_) HT_ HW_ rfl rfl (by kernel_rfl) (fun _ _ _ h => h) hS_ (by rfl) ?_ ?_ ?_; rotate_left 2; (rintro w' ⟨s0, s1, s2, s3⟩; go_simp; with_reducible rfl); (simp only [Act.put, sT, s0, s1, i64_w, i32_w]; rfl)
  refine mL 20 1048575 2097151 (N := some 23) (v := ?_) (a' := ?_) HT_ HW_ rfl rfl (by kernel_rfl) (fun _ _ _ h => h) hS_ (by rfl) ?_ ?_ ?_; rotate_left 2; (rintro w' ⟨s0, s1, s2, s3⟩; go_simp; with_reducible rfl); (simp only [Act.put, sT, s0, s1, i64_w, i32_w]; rfl)
  refine mL 21 2097151 4194303 (N := some 24) (v := ?_) (a' := ?_) HT_ HW_ rfl rfl (by kernel_rfl) (fun _ _ _ h => h) hS_ (by rfl) ?_ ?_ ?_; rotate_left 2; (rintro w' ⟨s0, s1, s2, s3⟩; go_simp; with_reducible rfl); (simp only [Act.put, sT, s0, s1, i64_w, i32_w]; rfl)
  refine mL 22 4194303 8388607 (N := some 25) (v := ?_) (a' := ?_) HT_ HW_ rfl rfl (by kernel_rfl) (fun _ _ _ h => h) hS_ (by rfl) ?_ ?_ ?_; rotate_left 2; (rintro w' ⟨s0, s1, s2, s3⟩; go_simp; with_reducible rfl); (simp only [Act.put, sT, s0, s1, i64_w, i32_w]; rfl)
  refine mL 23 8388607 16777215 (N := some 26) (v := ?_) (a' := ?_) HT_ HW_ rfl rfl (by kernel_rfl) (fun _ _ _ h => h) hS_ (by rfl) ?_ ?_ ?_; rotate_left 2; (rintro w' ⟨s0, s1, s2, s3⟩; go_simp; with_reducible rfl); (simp only [Act.put, sT, s0, s1, i64_w, i32_w]; rfl)
  refine mL 24 16777215 33554431 (N := some 27) (v := ?_) (a' := ?_) HT_ HW_ rfl rfl (by kernel_rfl) (fun _ _ _ h => h) hS_ (by rfl) ?_ ?_ ?_; rotate_left 2; (rintro w' ⟨s0, s1, s2, s3⟩; go_simp; with_reducible rfl); (simp only [Act.put, sT, s0, s1, i64_w, i32_w]; rfl)
  refine mL 25 33554431 67108863 (N := some 28) (v := ?_) (a' := ?_) HT_ HW_ rfl rfl (by kernel_rfl) (fun _ _ _ h => h) hS_ (by rfl) ?_ ?_ ?_; rotate_left 2; (rintro w' ⟨s0, s1, s2, s3⟩; go_simp; with_reducible rfl); (simp only [Act.put, sT, s0, s1, i64_w, i32_w]; rfl)
  refine mL 26 67108863 134217727 (N := some 29) (v := ?_) (a' := ?_) HT_ HW_ rfl rfl (by kernel_rfl) (fun _ _ _ h => h) hS_ (by rfl) ?_ ?_ ?_; rotate_left 2; (rintro w' ⟨s0, s1, s2, s3⟩; go_simp; with_reducible rfl); (simp only [Act.put, sT, s0, s1, i64_w, i32_w]; rfl)
  refine mD HT_ (by kernel_rfl) ?_
  go_wp2
  go_ret
  exact ⟨rfl, ⟨f, _, _, _, _, HG.out, HR.out⟩, HB.out, HSP.out⟩
 have hst : stepK s 2 = some { s with stored := s.stored ++ [⟨s.last + s.stored.length + 1, s.at_, s.pend⟩], pend := [] } := by unfold stepK; rw [if_neg (by decide), if_pos rfl, if_neg (by omega)]
 rw [hst]
 clear hst hg hr hok hB
 go_enter Try.func50, Try.ntmps50
 go_upto_region 1 with fail
 have hdr_ : Below w.heap.size w w.drew := (Below.refl _ w).drew
 have HG := Aside0.mk (HG.out.below hdr_)
 have HR := Aside0.mk (HR.out.below hdr_)
 have HB := Aside0.mk HB.out.drew
 have HSP := Aside0.mk (Spare.below (g := g) hdr_)
 clear hdr_ g0 g1 g2 g3 g4 g5 g6
 refine mS [] (S := fun w' => w'.cell? ⟨g, 1, none⟩ = some (.int .i64 s.at_) ∧ w'.cell? ⟨g, 2, none⟩ = some (.slice A2 s.pend.length c2) ∧ w'.cell? ⟨g, 3, none⟩ = some (.slice A3 s.stored.length c3) ∧ w'.cell? ⟨g, 5, none⟩ = some (.int .i64 s.last)) tab50_1 bits50_1 (by kernel_rfl) rfl ⟨(cells7_ HG.out).2.1, (cells7_ HG.out).2.2.1, (cells7_ HG.out).2.2.2.1, (cells7_ HG.out).2.2.2.2.2.1⟩ (fun hS_ HT_ HW_ => ?_)
 generalize w.drew = w1 at HG HR HB HSP hS_ ⊢
 refine mL 0 0 1 (N := some 3) (v := ?_) (a' := ?_) HT_ HW_ rfl rfl (by kernel_rfl) (fun _ _ _ h => h) hS_ (by rfl) ?_ ?_ ?_; rotate_left 2; (rintro w' ⟨s0, s1, s2, s3⟩; go_simp; with_reducible rfl); (simp only [Act.put, sT, s0, s1, i64_w, i32_w]; rfl)
 refine mL 1 1 3 (N := some 4) (v := ?_) (a' := ?_) HT_ HW_ rfl rfl (by kernel_rfl) (fun _ _ _ h => h) hS_ (by rfl) ?_ ?_ ?_; rotate_left 2; (rintro w' ⟨s0, s1, s2, s3⟩; go_simp; with_reducible rfl); (simp only [Act.put, sT, s0, s1, i64_w, i32_w]; rfl)
 refine mL 2 3 7 (N := some 5) (v := ?_) (a' := ?_) HT_ HW_ rfl rfl (by kernel_rfl) (fun _ _ _ h => h) hS_ (by rfl) ?_ ?_ ?_; rotate_left 2; (rintro w' ⟨s0, s1, s2, s3⟩; go_simp; with_reducible rfl); (simp only [Act.put, sT, s0, s1, i64_w, i32_w]; rfl)
 refine mL 3 7 15 (N := some 6) (v := ?_) (a' := ?_) HT_ HW_ rfl rfl (by kernel_rfl) (fun _ _ _ h => h) hS_ (by rfl) ?_ ?_ ?_; rotate_left 2; (rintro w' ⟨s0, s1, s2, s3⟩; go_simp; with_reducible rfl); (simp only [Act.put, sT, s0, s1, i64_w, i32_w]; rfl)
 refine mL 4 15 31 (N := some 7) (v := ?_) (a' := ?_) HT_ HW_ rfl rfl (by kernel_rfl) (fun _ _ _ h => h) hS_ (by rfl) ?_ ?_ ?_; rotate_left 2; (rintro w' ⟨s0, s1, s2, s3⟩; go_simp; with_reducible rfl); (simp only [Act.put, sT, s0, s1, i64_w, i32_w]; rfl)
 refine mL 5 31 63 (N := some 8) (v := ?_) (a' := ?_) HT_ HW_ rfl rfl (by kernel_rfl) (fun _ _ _ h => h) hS_ (by rfl) ?_ ?_ ?_; rotate_left 2; (rintro w' ⟨s0, s1, s2, s3⟩; go_simp; with_reducible rfl); (simp only [Act.put, sT, s0, s1, i64_w, i32_w]; rfl)
 refine mL 6 63 127 (N := some 9) (v := ?_) (a' := ?_) HT_ HW_ rfl rfl (by kernel_rfl) (fun _ _ _ h => h) hS_ (by rfl) ?_ ?_ ?_; rotate_left 2; (rintro w' ⟨s0, s1, s2, s3⟩; go_simp; with_reducible rfl); (simp only [Act.put, sT, s0, s1, i64_w, i32_w]; rfl)
 refine mL 7 127 255 (N := some 10) (v := ?_) (a' := ?_) HT_ HW_ rfl rfl (by kernel_rfl) (fun _ _ _ h => h) hS_ (by rfl) ?_ ?_ ?_; rotate_left 2; (rintro w' ⟨s0, s1, s2, s3⟩; go_simp; with_reducible rfl); (simp only [Act.put, sT, s0, s1, i64_w, i32_w]; rfl)
 refine mL 8 255 511 (N := some 11) (v := ?_) (a' := ?_) HT_ HW_ rfl rfl (by kernel_rfl) (fun _ _ _ h => h) hS_ (by rfl) ?_ ?_ ?_; rotate_left 2; (rintro w' ⟨s0, s1, s2, s3⟩; go_simp; with_reducible rfl); (simp only [Act.put, sT, s0, s1, i64_w, i32_w]; rfl)
 refine mL 9 511 1023 (N := some 12) (v := ?_) (a' := ?_) HT_ HW_ rfl rfl (by kernel_rfl) (fun _ _ _ h => h) hS_ (by rfl) ?_ ?_ ?_; rotate_left 2; (rintro w' ⟨s0, s1, s2, s3⟩; go_simp; with_reducible rfl); (simp only [Act.put, sT, s0, s1, i64_w, i32_w]; rfl)
 refine mL 10 1023 2047 (N := some 13) (v := ?_) (a' := ?_) HT_ HW_ rfl rfl (by kernel_rfl) (fun _ _ _ h => h) hS_ (by rfl) ?_ ?_ ?_; rotate_left 2; (rintro w' ⟨s0, s1, s2, s3⟩; go_simp; with_reducible rfl); (simp only [Act.put, sT, s0, s1, i64_w, i32_w]; rfl)
 refine mL 11 2047 4095 (N := some 14) (v := ?_) (a' := ?_) HT_ HW_ rfl rfl (by kernel_rfl) (fun _ _ _ h => h) hS_ (by rfl) ?_ ?_ ?_; rotate_left 2; (rintro w' ⟨s0, s1, s2, s3⟩; go_simp; with_reducible rfl); (simp only [Act.put, sT, s0, s1, i64_w, i32_w]; rfl)
 refine mL 12 4095 8191 (N := some 15) (v := ?_) (a' := ?_) HT_ HW_ rfl rfl (by kernel_rfl) (fun _ _ _ h => h) hS_ (by rfl) ?_ ?_ ?_; rotate_left 2; (rintro w' ⟨s0, s1, s2, s3⟩; go_simp; with_reducible rfl); (simp only [Act.put, sT, s0, s1, i64_w, i32_w]; rfl)
 refine mL 13 8191 16383 (N := some 16) (v := ?_) (a' := ?_) HT_ HW_ rfl rfl (by kernel_rfl) (fun _ _ _ h => h) hS_ (by rfl) ?_ ?_ ?_; rotate_left 2; (rintro w' ⟨s0, s1, s2, s3⟩; go_simp; with_reducible rfl); (simp only [Act.put, sT, s0, s1, i64_w, i32_w]; rfl)
 refine mL 14 16383 32767 (N := some 17) (v := ?_) (a' := ?_) HT_ HW_ rfl rfl (by kernel_rfl) (fun _ _ _ h => h) hS_ (by rfl) ?_ ?_ ?_; rotate_left 2; (rintro w' ⟨s0, s1, s2, s3⟩; go_simp; with_reducible rfl); (simp only [Act.put, sT, s0, s1, i64_w, i32_w]; rfl)
 refine mL 15 32767 65535 (N := some 18) (v := ?_) (a' := ?_) HT_ HW_ rfl rfl (by kernel_rfl) (fun _ _ _ h => h) hS_ (by rfl) ?_ ?_ ?_; rotate_left 2; (rintro w' ⟨s0, s1, s2, s3⟩; go_simp; with_reducible rfl); (simp only [Act.put, sT, s0, s1, i64_w, i32_w]; rfl)
 refine mL 16 65535 131071 (N := some 19) (v := ?_) (a' := ?_) HT_ HW_ rfl rfl (by kernel_rfl) (fun _ _ _ h => h) hS_ (by rfl) ?_ ?_ ?_; rotate_left 2; (rintro w' ⟨s0, s1, s2, s3⟩; go_simp; with_reducible rfl); (simp only [Act.put, sT, s0, s1, i64_w, i32_w]; rfl)
 refine mL 17 131071 262143 (N := some 20) (v := ?_) (a' := ?_) HT_ HW_ rfl rfl (by kernel_rfl) (fun _ _ _ h => h) hS_ (by rfl) ?_ ?_ ?_; rotate_left 2; (rintro w' ⟨s0, s1, s2, s3⟩; go_simp; with_reducible rfl); (simp only [Act.put, sT, s0, s1, i64_w, i32_w]; rfl)
 refine mL 18 262143 524287 (N := some 21) (v := ?_) (a' := ?_) HT_ HW_ rfl rfl (by kernel_rfl) (fun _ _ _ h => h) hS_ (by rfl) ?_ ?_ ?_; rotate_left 2; (rintro w' ⟨s0, s1, s2, s3⟩; go_simp; with_reducible rfl); (simp only [Act.put, sT, s0, s1, i64_w, i32_w]; rfl)
 refine mL 19 524287 1048575 (N := some 22) (v := ?_) (a' := ?_) HT_ HW_ rfl rfl (by kernel_rfl) (fun _ _ _ h => h) hS_ (by rfl) ?_ ?_ ?_; rotate_left 2; (rintro w' ⟨s0, s1, s2, s3⟩; go_simp; with_reducible rfl); (simp only [Act.put, sT, s0, s1, i64_w, i32_w]; rfl)
 refine mL 20 1048575 2097151 (N := some 23) (v := ?_) (a' := ?_) HT_ HW_ rfl rfl (by kernel_rfl) (fun _ _ _ h => h) hS_ (by rfl) ?_ ?_ ?_; rotate_left 2; (rintro w' ⟨s0, s1, s2, s3⟩; go_simp; with_reducible rfl); (simp only [Act.put, sT, s0, s1, i64_w, i32_w]; rfl)
 refine mL 21 2097151 4194303 (N := some 24) (v := ?_) (a' := ?_) HT_ HW_ rfl rfl (by kernel_rfl) (fun _ _ _ h => h) hS_ (by rfl) ?_ ?_ ?_; rotate_left 2; (rintro w' ⟨s0, s1, s2, s3⟩; go_simp; with_reducible rfl); (simp only [Act.put, sT, s0, s1, i64_w, i32_w]; rfl)
 refine mL 22 4194303 8388607 (N := some 25) (v := ?_) (a' := ?_) HT_ HW_ rfl rfl (by kernel_rfl) (fun _ _ _ h => h) hS_ (by rfl) ?_ ?_ ?_; rotate_left 2; (rintro w' ⟨s0, s1, s2, s3⟩; go_simp; with_reducible rfl); (simp only [Act.put, sT, s0, s1, i64_w, i32_w]; rfl)
 refine mL 23 8388607 16777215 (N := some 26) (v := ?_) (a' := ?_) HT_ HW_ rfl rfl (by kernel_rfl) (fun _ _ _ h => h) hS_ (by rfl) ?_ ?_ ?_; rotate_left 2; (rintro w' ⟨s0, s1, s2, s3⟩; go_simp; with_reducible rfl); (simp only [Act.put, sT, s0, s1, i64_w, i32_w]; rfl)
 refine mL 24 16777215 33554431 (N := some 27) (v := ?_) (a' := ?_) HT_ HW_ rfl rfl (by kernel_rfl) (fun _ _ _ h => h) hS_ (by rfl) ?_ ?_ ?_; rotate_left 2; (rintro w' ⟨s0, s1, s2, s3⟩; go_simp; with_reducible rfl); (simp only [Act.put, sT, s0, s1, i64_w, i32_w]; rfl)
 refine mL 25 33554431 67108863 (N := some 28) (v := ?_) (a' := ?_) HT_ HW_ rfl rfl (by kernel_rfl) (fun _ _ _ h => h) hS_ (by rfl) ?_ ?_ ?_; rotate_left 2; (rintro w' ⟨s0, s1, s2, s3⟩; go_simp; with_reducible rfl); (simp only [Act.put, sT, s0, s1, i64_w, i32_w]; rfl)
 refine mL 26 67108863 134217727 (N := some 29) (v := ?_) (a' := ?_) HT_ HW_ rfl rfl (by kernel_rfl) (fun _ _ _ h => h) hS_ (by rfl) ?_ ?_ ?_; rotate_left 2; (rintro w' ⟨s0, s1, s2, s3⟩; go_simp; with_reducible rfl); (simp only [Act.put, sT, s0, s1, i64_w, i32_w]; rfl)
 refine mD HT_ (by kernel_rfl) ?_
 go_upto_region 3 with fail
 clear q1 q2 q3 t1 t2
 have hdr_ : Below w1.heap.size w1 w1.drew := (Below.refl _ _).drew
 have HG := Aside0.mk (HG.out.below hdr_)
 have HR := Aside0.mk (HR.out.below hdr_)
 have HB := Aside0.mk HB.out.drew
 have HSP := Aside0.mk (HSP.out.trans (Spare.below hdr_))
 clear hdr_
 refine mS [29] (S := fun w' => w'.cell? ⟨g, 1, none⟩ = some (.int .i64 s.at_) ∧ w'.cell? ⟨g, 2, none⟩ = some (.slice A2 s.pend.length c2) ∧ w'.cell? ⟨g, 3, none⟩ = some (.slice A3 s.stored.length c3) ∧ w'.cell? ⟨g, 5, none⟩ = some (.int .i64 s.last)) tab50_3 bits50_3 (by kernel_rfl) rfl ⟨(cells7_ HG.out).2.1, (cells7_ HG.out).2.2.1, (cells7_ HG.out).2.2.2.1, (cells7_ HG.out).2.2.2.2.2.1⟩ (fun hS_ HT_ HW_ => ?_)
 generalize w1.drew = w2 at HG HR HB HSP hS_ ⊢
 refine mL 0 0 1 (N := some 30) (v := ?_) (a' := ?_) HT_ HW_ rfl rfl (by kernel_rfl) (fun _ _ _ h => h) hS_ (by rfl) ?_ ?_ ?_; rotate_left 2; (rintro w' ⟨s0, s1, s2, s3⟩; go_simp; with_reducible rfl); (simp only [Act.put, sT, s0, s1, i64_w, i32_w]; rfl)
 refine mL 1 1 3 (N := some 31) (v := ?_) (a' := ?_) HT_ HW_ rfl rfl (by kernel_rfl) (fun _ _ _ h => h) hS_ (by rfl) ?_ ?_ ?_; rotate_left 2; (rintro w' ⟨s0, s1, s2, s3⟩; go_simp; with_reducible rfl); (simp only [Act.put, sT, s0, s1, i64_w, i32_w]; rfl)
 refine mL 2 3 7 (N := some 32) (v := ?_) (a' := ?_) HT_ HW_ rfl rfl (by kernel_rfl) (fun _ _ _ h => h) hS_ (by rfl) ?_ ?_ ?_; rotate_left 2; (rintro w' ⟨s0, s1, s2, s3⟩; go_simp; with_reducible rfl); (simp only [Act.put, sT, s0, s1, i64_w, i32_w]; rfl)
 refine mL 3 7 15 (N := some 33) (v := ?_) (a' := ?_) HT_ HW_ rfl rfl (by kernel_rfl) (fun _ _ _ h => h) hS_ (by rfl) ?_ ?_ ?_; rotate_left 2; (rintro w' ⟨s0, s1, s2, s3⟩; go_simp; with_reducible rfl); (simp only [Act.put, sT, s0, s1, i64_w, i32_w]; rfl)
 refine mL 4 15 31 (N := some 34) (v := ?_) (a' := ?_) HT_ HW_ rfl rfl (by kernel_rfl) (fun _ _ _ h => h) hS_ (by rfl) ?_ ?_ ?_; rotate_left 2; (rintro w' ⟨s0, s1, s2, s3⟩; go_simp; with_reducible rfl); (simp only [Act.put, sT, s0, s1, i64_w, i32_w]; rfl)
 refine mL 5 31 63 (N := some 35) (v := ?_) (a' := ?_) HT_ HW_ rfl rfl (by kernel_rfl) (fun _ _ _ h => h) hS_ (by rfl) ?_ ?_ ?_; rotate_left 2; (rintro w' ⟨s0, s1, s2, s3⟩; go_simp; with_reducible rfl); (simp only [Act.put, sT, s0, s1, i64_w, i32_w]; rfl)
 refine mL 6 63 127 (N := some 36) (v := ?_) (a' := ?_) HT_ HW_ rfl rfl (by kernel_rfl) (fun _ _ _ h => h) hS_ (by rfl) ?_ ?_ ?_; rotate_left 2; (rintro w' ⟨s0, s1, s2, s3⟩; go_simp; with_reducible rfl); (simp only [Act.put, sT, s0, s1, i64_w, i32_w]; rfl)
 refine mL 7 127 255 (N := some 37) (v := ?_) (a' := ?_) HT_ HW_ rfl rfl (by kernel_rfl) (fun _ _ _ h => h) hS_ (by rfl) ?_ ?_ ?_; rotate_left 2; (rintro w' ⟨s0, s1, s2, s3⟩; go_simp; with_reducible rfl); (simp only [Act.put, sT, s0, s1, i64_w, i32_w]; rfl)
 refine mL 8 255 511 (N := some 38) (v := ?_) (a' := ?_) HT_ HW_ rfl rfl (by kernel_rfl) (fun _ _ _ h => h) hS_ (by rfl) ?_ ?_ ?_; rotate_left 2; (rintro w' ⟨s0, s1, s2, s3⟩; go_simp; with_reducible rfl); (simp only [Act.put, sT, s0, s1, i64_w, i32_w]; rfl)
 refine mL 9 511 1023 (N := some 39) (v := ?_) (a' := ?_) HT_ HW_ rfl rfl (by kernel_rfl) (fun _ _ _ h => h) hS_ (by rfl) ?_ ?_ ?_; rotate_left 2; (rintro w' ⟨s0, s1, s2, s3⟩; go_simp; with_reducible rfl); (simp only [Act.put, sT, s0, s1, i64_w, i32_w]; rfl)
 refine mL 10 1023 2047 (N := some 40) (v := ?_) (a' := ?_) HT_ HW_ rfl rfl (by kernel_rfl) (fun _ _ _ h => h) hS_ (by rfl) ?_ ?_ ?_; rotate_left 2; (rintro w' ⟨s0, s1, s2, s3⟩; go_simp; with_reducible rfl); (simp only [Act.put, sT, s0, s1, i64_w, i32_w]; rfl)
 refine mL 11 2047 4095 (N := some 41) (v := ?_) (a' := ?_) HT_ HW_ rfl rfl (by kernel_rfl) (fun _ _ _ h => h) hS_ (by rfl) ?_ ?_ ?_; rotate_left 2; (rintro w' ⟨s0, s1, s2, s3⟩; go_simp; with_reducible rfl); (simp only [Act.put, sT, s0, s1, i64_w, i32_w]; rfl)
 refine mL 12 4095 8191 (N := some 42) (v := ?_) (a' := ?_) HT_ HW_ rfl rfl (by kernel_rfl) (fun _ _ _ h => h) hS_ (by rfl) ?_ ?_ ?_; rotate_left 2; (rintro w' ⟨s0, s1, s2, s3⟩; go_simp; with_reducible rfl); (simp only [Act.put, sT, s0, s1, i64_w, i32_w]; rfl)
 refine mL 13 8191 16383 (N := some 43) (v := ?_) (a' := ?_) HT_ HW_ rfl rfl (by kernel_rfl) (fun _ _ _ h => h) hS_ (by rfl) ?_ ?_ ?_; rotate_left 2; (rintro w' ⟨s0, s1, s2, s3⟩; go_simp; with_reducible rfl); (simp only [Act.put, sT, s0, s1, i64_w, i32_w]; rfl)
 refine mL 14 16383 32767 (N := some 44) (v := ?_) (a' := ?_) HT_ HW_ rfl rfl (by kernel_rfl) (fun _ _ _ h => h) hS_ (by rfl) ?_ ?_ ?_; rotate_left 2; (rintro w' ⟨s0, s1, s2, s3⟩; go_simp; with_reducible rfl); (simp only [Act.put, sT, s0, s1, i64_w, i32_w]; rfl)
 refine mL 15 32767 65535 (N := some 45) (v := ?_) (a' := ?_) HT_ HW_ rfl rfl (by kernel_rfl) (fun _ _ _ h => h) hS_ (by rfl) ?_ ?_ ?_; rotate_left 2; (rintro w' ⟨s0, s1, s2, s3⟩; go_simp; with_reducible rfl); (simp only [Act.put, sT, s0, s1, i64_w, i32_w]; rfl)
 refine mL 16 65535 131071 (N := some 46) (v := ?_) (a' := ?_) HT_ HW_ rfl rfl (by kernel_rfl) (fun _ _ _ h => h) hS_ (by rfl) ?_ ?_ ?_; rotate_left 2; (rintro w' ⟨s0, s1, s2, s3⟩; go_simp; with_reducible rfl); (simp only [Act.put, sT, s0, s1, i64_w, i32_w]; rfl)
 refine mL 17 131071 262143 (N := some 47) (v := ?_) (a' := ?_) HT_ HW_ rfl rfl (by kernel_rfl) (fun _ _ _ h => h) hS_ (by rfl) ?_ ?_ ?_; rotate_left 2; (rintro w' ⟨s0, s1, s2, s3⟩; go_simp; with_reducible rfl); (simp only [Act.put, sT, s0, s1, i64_w, i32_w]; rfl)
 refine mL 18 262143 524287 (N := some 48) (v := ?_) (a' := ?_) HT_ HW_ rfl rfl (by kernel_rfl) (fun _ _ _ h => h) hS_ (by rfl) ?_ ?_ ?_; rotate_left 2; (rintro w' ⟨s0, s1, s2, s3⟩; go_simp; with_reducible rfl); (simp only [Act.put, sT, s0, s1, i64_w, i32_w]; rfl)
 refine mL 19 524287 1048575 (N := some 49) (v := ?_) (a' := ?_) HT_ HW_ rfl rfl (by kernel_rfl) (fun _ _ _ h => h) hS_ (by rfl) ?_ ?_ ?_; rotate_left 2; (rintro w' ⟨s0, s1, s2, s3⟩; go_simp; with_reducible rfl); (simp only [Act.put, sT, s0, s1, i64_w, i32_w]; rfl)
 refine mL 20 1048575 2097151 (N := some 50) (v := ?_) (a' := ?_) HT_ HW_ rfl rfl (by kernel_rfl) (fun _ _ _ h => h) hS_ (by rfl) ?_ ?_ ?_; rotate_left 2; (rintro w' ⟨s0, s1, s2, s3⟩; go_simp; with_reducible rfl); (simp only [Act.put, sT, s0, s1, i64_w, i32_w]; rfl)
 refine mL 21 2097151 4194303 (N := some 51) (v := ?_) (a' := ?_) HT_ HW_ rfl rfl (by kernel_rfl) (fun _ _ _ h => h) hS_ (by rfl) ?_ ?_ ?_; rotate_left 2; (rintro w' ⟨s0, s1, s2, s3⟩; go_simp; with_reducible rfl); (simp only [Act.put, sT, s0, s1, i64_w, i32_w]; rfl)
 refine mL 22 4194303 8388607 (N := some 52) (v := ?_) (a' := ?_) HT_ HW_ rfl rfl (by kernel_rfl) (fun _ _ _ h => h) hS_ (by rfl) ?_ ?_ ?_; rotate_left 2; (rintro w' ⟨s0, s1, s2, s3⟩; go_simp; with_reducible rfl); (simp only [Act.put, sT, s0, s1, i64_w, i32_w]; rfl)
 refine mL 23 8388607 16777215 (N := some 53) (v := ?_) (a' := ?_) HT_ HW_ rfl rfl (by kernel_rfl) (fun _ _ _ h => h) hS_ (by rfl) ?_ ?_ ?_; rotate_left 2; (rintro w' ⟨s0, s1, s2, s3⟩; go_simp; with_reducible rfl); (simp only [Act.put, sT, s0, s1, i64_w, i32_w]; rfl)
 refine mL 24 16777215 33554431 (N := some 54) (v := ?_) (a' := ?_) HT_ HW_ rfl rfl (by kernel_rfl) (fun _ _ _ h => h) hS_ (by rfl) ?_ ?_ ?_; rotate_left 2; (rintro w' ⟨s0, s1, s2, s3⟩; go_simp; with_reducible rfl); (simp only [Act.put, sT, s0, s1, i64_w, i32_w]; rfl)
 refine one_ (i := 25) (N := some 55) (lB 30 67108863) rfl rfl (one_of HT_.out (by kernel_rfl)) (by decide) (fun K hK => ?_)
 refine event_step (w1 := w2.alloc (.cells #[.int .i64 (s.last + (s.stored.length : Int) + 1), .int .i64 s.at_, .slice A2 s.pend.length c2] 68)) (v := .slice (some ⟨w2.heap.size, 0, none⟩) 1 1) (by rfl) (by first | (go_simp; done) | (go_simp; rfl)) ?_
 have hl_ : Below w2.heap.size w2 (w2.alloc (.cells #[.int .i64 (s.last + (s.stored.length : Int) + 1), .int .i64 s.at_, .slice A2 s.pend.length c2] 68)) := below_alloc (Below.refl _ _) _
 refine hK.out _ _ ⟨(cells7_ (HG.out.below hl_)).2.1, (cells7_ (HG.out.below hl_)).2.2.1, (cells7_ (HG.out.below hl_)).2.2.2.1, (cells7_ (HG.out.below hl_)).2.2.2.2.2.1⟩ (fun hS_ => ?_)
 clear hK K hl_
 refine norm_ (a' := ?_) ?_ ?_
 rotate_left
 (show Act.put _ (some 55) _ = _; simp only [Act.put, sT, s0, s1, i64_w, i32_w]; rfl)
 refine one_ (i := 26) (N := some 56) (lB 30 134217727) rfl rfl (one_of HT_.out (by kernel_rfl)) (by decide) (fun K hK => ?_)
 refine Kd.Q_append_step k68 (w0 := w0) w0.heap.size (by rfl) (.tmp 34) (.tmp 55) 26 68 _ 40 rfl Try.underlying26 info68 rfl (by decide) (by omega) _ s.stored ⟨s.last + (s.stored.length : Int) + 1, s.at_, s.pend⟩ [.int .i64 (s.last + (s.stored.length : Int) + 1), .int .i64 s.at_, .slice A2 s.pend.length c2] (fun k => prepcol f w2.heap.size k = 3) (fun k => k < w2.heap.size ∧ f k = 2) (by rfl) (by rfl) (k68_mkM _ _ _ _ (Kd.R_mono (Kd.R_bound HR.out.r2) (fun k hk => ⟨hk.2.2.1, hk.1⟩))) (fun k hk => ⟨by simp [prepcol, hk.1, hk.2], fun e => by have h3 : f k = 3 := HR.out.r3.1 k e.symm; have h2 : f k = 2 := hk.2; omega⟩) (fun k hk => by simp [prepcol]; omega) (Kd.Q_mono (Kd.Q_bound HR.out.r3) (fun k hk => by have h1 : f k = 3 := hk.1; simp [prepcol, hk.2.2.1, h1])) HB.out HB.out.size (by omega) ?_
 intro v5 w5 hr5 hb5 hg5 hat5
 obtain ⟨A5, c5, rfl, hc5⟩ := Kd.Q_slice hr5
 have hG5 := HG.out.grown hg5 (R_typed68 HR.out.r3) (by decide)
 have hR5 := HR.out.prep hg5 _ hr5
 have hS5 := HSP.out.trans (Spare.grown hg5 (R_typed68 HR.out.r3) (Or.inr rfl))
 have HG5 := Aside0.mk hG5; have HR5 := Aside0.mk hR5; have HS5 := Aside0.mk hS5; have HB5 := Aside0.mk hb5
 refine hK.out _ _ ⟨(cells7_ hG5).2.1, (cells7_ hG5).2.2.1, (cells7_ hG5).2.2.2.1, (cells7_ hG5).2.2.2.2.2.1⟩ (fun hS_ => ?_)
 clear hK K hr5 hb5 hg5 hat5 hG5 hR5 hS5 HR
 refine norm_ (a' := ?_) ?_ ?_
 rotate_left
 (show Act.put _ (some 56) _ = _; simp only [Act.put, sT, s0, s1, i64_w, i32_w]; rfl)
 refine mL 27 134217727 268435455 (N := some 57) (v := ?_) (a' := ?_) HT_ HW_ rfl rfl (by kernel_rfl) (fun _ _ _ h => h) hS_ (by rfl) ?_ ?_ ?_; rotate_left 2; (rintro w' ⟨s0, s1, s2, s3⟩; go_simp; with_reducible rfl); (simp only [Act.put, sT, s0, s1, i64_w, i32_w]; rfl)
 refine mL 28 268435455 536870911 (N := some 58) (v := ?_) (a' := ?_) HT_ HW_ rfl rfl (by kernel_rfl) (fun _ _ _ h => h) hS_ (by rfl) ?_ ?_ ?_; rotate_left 2; (rintro w' ⟨s0, s1, s2, s3⟩; go_simp; with_reducible rfl); (simp only [Act.put, sT, s0, s1, i64_w, i32_w]; rfl)
 refine last_ (i := 29) (N := none) (lB 30 1073741823) rfl rfl (one_of HT_.out (by kernel_rfl)) (by decide) (fun K hK => ?_)
 obtain ⟨g0, g1, g2, g3, g4, g5, g6⟩ := cells7_ HG5.out
 have f3 := blk_frozen HG5.out 3
 refine skip_ (w1 := w5.setCell ⟨g, 3, none⟩ (.slice A5 (s.stored ++ [(⟨s.last + (s.stored.length : Int) + 1, s.at_, s.pend⟩ : S68)]).length c5)) (by rfl) rfl (by first | (go_simp; done) | (go_simp; rfl)) ?_
 clear g0 g1 g2 g3 g4 g5 g6 f3
 have hG6 := HG5.out.set3 (.slice A5 (s.stored ++ [(⟨s.last + (s.stored.length : Int) + 1, s.at_, s.pend⟩ : S68)]).length c5)
 have hR6 := HR5.out.set HG5.out 3 (.slice A5 (s.stored ++ [(⟨s.last + (s.stored.length : Int) + 1, s.at_, s.pend⟩ : S68)]).length c5)
 have HS6 := Aside0.mk (HS5.out.trans (Spare.set g _ 3 (.slice A5 (s.stored ++ [(⟨s.last + (s.stored.length : Int) + 1, s.at_, s.pend⟩ : S68)]).length c5)))
 have HB6 := Aside0.mk (HB5.out.setCell (p := ⟨g, 3, none⟩) hgb (.slice A5 (s.stored ++ [(⟨s.last + (s.stored.length : Int) + 1, s.at_, s.pend⟩ : S68)]).length c5))
 generalize w5.setCell ⟨g, 3, none⟩ (.slice A5 (s.stored ++ [(⟨s.last + (s.stored.length : Int) + 1, s.at_, s.pend⟩ : S68)]).length c5) = w6 at hG6 hR6 HS6 HB6 ⊢
 have HG6 := Aside0.mk hG6; have HR6 := Aside0.mk hR6; clear hG6 hR6
 refine hK.out _ _ ?_
 clear hK K
 refine mD HT_ (by kernel_rfl) ?_
 obtain ⟨g0, g1, g2, g3, g4, g5, g6⟩ := cells7_ HG6.out
 have f2 := blk_frozen HG6.out 2
 go_wp2
 go_ret
 exact ⟨rfl, ⟨_, _, _, _, _, HG6.out.set2 (.slice none 0 0), HR6.out.set HG6.out 2 _⟩, HB6.out.setCell (p := ⟨g, 2, none⟩) hgb _, HS6.out.trans (Spare.set g _ 2 _)⟩
end Go.Proofs.Ytjndadjhhknggaa.Q
end
section
/- Sink.commit: the first of what is stored is given out. -/
namespace Go.Proofs.Ytjndadjhhknggaa.Q
open Go.RowKit Go.Proofs.YtjndadjhhknggaaW.PrintWords Go.Proofs.YtjndadjhhknggaaW.PrintLast
set_option linter.unusedVariables false
set_option linter.unusedSimpArgs false
def T68_4 : Bool × List (List Nat × List Nat) := (true, [([], []), ([], []), ([1], [1]), ([2], [2]), ([3], [3]), ([], []), ([5], [5]), ([4, 6], [4, 6]), ([0, 0, 1, 2, 3, 4, 5, 6, 7], [0]), ([8, 0, 1, 2, 3, 4, 5, 6, 7], [8]), ([9, 7, 7, 0, 1, 2, 3, 4, 5, 6, 7], [7, 9])])
def B68_4 : List Nat := [0, 0, 2, 6, 14, 0, 32, 126, 255, 511, 1023]
theorem tab68_4 : rtab .any (opsOf Try.f68 4) = T68_4 := by kernel_rfl
theorem bits68_4 : waitsOk T68_4.2 B68_4 = true := by kernel_rfl
def T68_5 : Bool × List (List Nat × List Nat) := (true, [([], []), ([], []), ([], []), ([2], [2]), ([], []), ([4], [4]), ([0, 0, 2, 3], [0]), ([6, 0, 2, 3], [6]), ([7, 3, 0, 2, 3], [3, 7]), ([1, 0, 1, 2, 3, 4, 5, 6, 7, 8], [1]), ([9, 0, 1, 2, 3, 4, 5, 6, 7, 8], [9]), ([10, 5, 8, 0, 1, 2, 3, 4, 5, 6, 7, 8], [5, 10])])
def B68_5 : List Nat := [0, 0, 0, 4, 0, 16, 13, 77, 205, 511, 1023, 2047]
theorem tab68_5 : rtab .any (opsOf Try.f68 5) = T68_5 := by kernel_rfl
theorem bits68_5 : waitsOk T68_5.2 B68_5 = true := by kernel_rfl
/-- 'xs[m:]' of a row of one's own, the new address a letter. -/
theorem X_cutQ {α : Type} (d : Kd α) {P : Program} (t e : TypeId) {z : Value} {bytes : Nat} (ht : P.underlying t = some (.slice e)) (hinfo : (P.info? e).map (fun i => (i.zero, i.size, i.bytes)) = some (some z, d.sz, bytes)) (A : Option Addr) (n c m : Nat) (hm : m ≤ n) :
  ∃ A' : Option Addr, (∀ W : World, (Instr.slice t (.slice A n c) (some (.int .i64 (m : Int))) none none).run P W = .ok (.slice A' (n - m) (c - m)) W) ∧ ∀ (w : World) (base : Nat) (ok : Nat → Prop) (xs : List α), d.Q e w base ok (.slice A n c) xs → m ≤ xs.length → d.Q e w base ok (.slice A' (n - m) (c - m)) (xs.drop m) := by
 obtain ⟨i, hi, hzz⟩ := Option.map_eq_some_iff.1 hinfo
 simp only [Prod.mk.injEq] at hzz
 obtain ⟨_, hsz, _⟩ := hzz
 refine ⟨if c = m then A else A.map (·.add (m * d.sz)), fun W => ?_, fun w base ok xs h hmx => Kd.Q_drop h hmx⟩
 have := cut_from (P := P) t e .i64 ht hi d.sz hsz A n c (m : Int) (by omega) (by omega) W
 simpa using this
set_option maxHeartbeats 8000000 in
set_option maxRecDepth 100000 in
theorem commit_calls (g : Nat) (s : SK) (w0 w : World) (h : SinkAt g w w0.heap.size s) (hok : SKOk s) (hB : Below w0.heap.size w0 w) (hgb : w0.heap.size ≤ g) :
  Calls Try.prog 68 #[.pointer (some ⟨g, 0, none⟩)] w fun e w' => StepRet g w0 w w' e s (stepK s 3) := by
 obtain ⟨f, v0, v2, v3, v4, hg, hr⟩ := h
 obtain ⟨A0, c0, rfl⟩ := Kd.R_slice hr.r0
 obtain ⟨A2, c2, rfl⟩ := Kd.R_slice hr.r2
 obtain ⟨A3, c3, rfl, hc3⟩ := Kd.Q_slice hr.r3
 obtain ⟨A4, c4, rfl⟩ := Kd.R_slice hr.r4
 have HG := Aside0.mk hg
 have HR := Aside0.mk hr
 have HOK := Aside0.mk hok
 have HB := Aside0.mk hB
 obtain ⟨g0, g1, g2, g3, g4, g5, g6⟩ := cells7_ hg
 have hu28 := Try.underlying28
 have hu68 := Try.underlying68
 cases hst0 : s.stored with
 | nil =>
  have hst : stepK s 3 = none := by unfold stepK; rw [if_neg (by decide), if_neg (by decide), if_pos rfl, hst0]
  have t1 : ((s.stored.length : Int) == 0) = true := by rw [hst0]; rfl
  rw [hst]
  clear hst hg hr hok hB hst0
  go_enter Try.func68, Try.ntmps68
  go_wp2
  go_ret
  exact ⟨rfl, ⟨f, _, _, _, _, HG.out, HR.out⟩, HB.out, Spare.refl _ _⟩
 | cons p r =>
  have hst : stepK s 3 = some { s with out := s.out ++ p.f2, last := p.f0, upto := p.f1, stored := r } := by unfold stepK; rw [if_neg (by decide), if_neg (by decide), if_pos rfl, hst0]
  have t1 : ((s.stored.length : Int) == 0) = false := by rw [hst0, beq_eq_false_iff_ne]; simp; omega
  have t2 : 0 < s.stored.length := by rw [hst0]; simp
  have hpl : p.f2.length ≤ 1000 := hok.rows p (by rw [hst0]; simp)
  have hol := hok.out
  have HST := Aside0.mk hst0
  rw [hst]
  obtain ⟨ad, Ap, cp, eA, x0, x1, x2, hlp, hCp⟩ := at_T68 (Kd.Q_reads' hr.r3).2.2 0 (by omega) (by omega)
  subst eA
  have hy0 : rd_T68 s.stored 0 = p := by rw [hst0]; rfl
  rw [hy0] at x0 x1 x2 hlp hCp
  simp only [Int.toNat_zero, Nat.zero_mul, Addr.add_zero'] at x0 x1 x2
  have HCP := Aside0.mk (And.intro hlp hCp)
  obtain ⟨A', hcutR, hcutQ⟩ := X_cutQ k68 (P := Try.prog) 26 68 Try.underlying26 info68 (some ad) s.stored.length c3 1 t2
  have HCQ := Aside0.mk hcutQ
  have hcut1 : ∀ W : World, (Instr.slice 26 (.slice (some ad) s.stored.length c3) (some (.int .i64 1)) none none).run Try.prog W = .ok (.slice A' (s.stored.length - 1) (c3 - 1)) W := hcutR
  clear hcutR hcutQ
  have hb_ : Below w.heap.size w (w.alloc (.cells #[.int .i64 p.f0, .int .i64 p.f1, .slice Ap p.f2.length cp] 68)) := below_alloc (Below.refl _ _) _
  have HQ := Aside0.mk (blk_new w (.cells #[.int .i64 p.f0, .int .i64 p.f1, .slice Ap p.f2.length cp] 68))
  have HG := Aside0.mk (HG.out.below hb_)
  have HR := Aside0.mk (HR.out.below hb_)
  have HB := Aside0.mk (below_then HB.out HB.out.size hb_)
  have HSP := Aside0.mk (Spare.below (g := g) hb_)
  have HCP := Aside0.mk (And.intro HCP.out.1 (Kd.C_below HCP.out.2 hb_))
  have hgq : g ≠ w.heap.size := Nat.ne_of_lt (blk_lt hg)
  clear hst hg hr hok hB hst0 hb_ hlp hCp hy0
  have HGQ := Aside0.mk hgq
  go_enter Try.func68, Try.ntmps68
  go_upto_region 4 with fail
  generalize w.heap.size = q at HQ hgq HGQ ⊢
  generalize w.alloc (.cells #[.int .i64 p.f0, .int .i64 p.f1, .slice Ap p.f2.length cp] 68) = w1 at HG HR HB HSP HQ HCP ⊢
  clear g0 g1 g2 g3 g4 g5 g6 x0 x1 x2
  have hdr_ : Below w1.heap.size w1 w1.drew := (Below.refl _ _).drew
  have HG := Aside0.mk (HG.out.below hdr_)
  have HR := Aside0.mk (HR.out.below hdr_)
  have HB := Aside0.mk HB.out.drew
  have HSP := Aside0.mk (HSP.out.trans (Spare.below hdr_))
  have HQ := Aside0.mk (blk_below HQ.out hdr_)
  have HCP := Aside0.mk (And.intro HCP.out.1 (Kd.C_below HCP.out.2 hdr_))
  clear hdr_ hgq
  refine mS [10] (S := fun w' => w'.cell? ⟨g, 4, none⟩ = some (.slice A4 s.out.length c4) ∧ w'.cell? ⟨q, 2, none⟩ = some (.slice Ap p.f2.length cp)) tab68_4 bits68_4 (by kernel_rfl) rfl ⟨(cells7_ HG.out).2.2.2.2.1, (cells3_ HQ.out).2.2⟩ (fun hS_ HT_ HW_ => ?_)
  generalize w1.drew = w2 at HG HR HB HSP HQ HCP hS_ ⊢
  refine mL 0 0 1 (N := some 16) (v := ?_) (a' := ?_) HT_ HW_ rfl rfl (by kernel_rfl) (fun _ _ _ h => h) hS_ (by rfl) ?_ ?_ ?_; rotate_left 2; (rintro w' ⟨s0, s1⟩; go_simp; with_reducible rfl); (simp only [Act.put, sT, s0, s1, i64_w, i32_w]; rfl)
  refine mL 1 1 3 (N := some 17) (v := ?_) (a' := ?_) HT_ HW_ rfl rfl (by kernel_rfl) (fun _ _ _ h => h) hS_ (by rfl) ?_ ?_ ?_; rotate_left 2; (rintro w' ⟨s0, s1⟩; go_simp; with_reducible rfl); (simp only [Act.put, sT, s0, s1, i64_w, i32_w]; rfl)
  refine mL 2 3 7 (N := some 18) (v := ?_) (a' := ?_) HT_ HW_ rfl rfl (by kernel_rfl) (fun _ _ _ h => h) hS_ (by rfl) ?_ ?_ ?_; rotate_left 2; (rintro w' ⟨s0, s1⟩; go_simp; with_reducible rfl); (simp only [Act.put, sT, s0, s1, i64_w, i32_w]; rfl)
  refine mL 3 7 15 (N := some 19) (v := ?_) (a' := ?_) HT_ HW_ rfl rfl (by kernel_rfl) (fun _ _ _ h => h) hS_ (by rfl) ?_ ?_ ?_; rotate_left 2; (rintro w' ⟨s0, s1⟩; go_simp; with_reducible rfl); (simp only [Act.put, sT, s0, s1, i64_w, i32_w]; rfl)
  refine mL 4 15 31 (N := some 20) (v := ?_) (a' := ?_) HT_ HW_ rfl rfl (by kernel_rfl) (fun _ _ _ h => h) hS_ (by rfl) ?_ ?_ ?_; rotate_left 2; (rintro w' ⟨s0, s1⟩; go_simp; with_reducible rfl); (simp only [Act.put, sT, s0, s1, i64_w, i32_w]; rfl)
  refine mL 5 31 63 (N := some 21) (v := ?_) (a' := ?_) HT_ HW_ rfl rfl (by kernel_rfl) (fun _ _ _ h => h) hS_ (by rfl) ?_ ?_ ?_; rotate_left 2; (rintro w' ⟨s0, s1⟩; go_simp; with_reducible rfl); (simp only [Act.put, sT, s0, s1, i64_w, i32_w]; rfl)
  refine mL 6 63 127 (N := some 22) (v := ?_) (a' := ?_) HT_ HW_ rfl rfl (by kernel_rfl) (fun _ _ _ h => h) hS_ (by rfl) ?_ ?_ ?_; rotate_left 2; (rintro w' ⟨s0, s1⟩; go_simp; with_reducible rfl); (simp only [Act.put, sT, s0, s1, i64_w, i32_w]; rfl)
  have HRC := Aside0.mk (HR.out.recol w2.heap.size 4 (Nat.le_refl _)); clear HR
  refine one_ (i := 7) (N := some 23) (lB 11 255) rfl rfl (one_of HT_.out (by kernel_rfl)) (by decide) (fun K hK => ?_)
  refine Kd.R_append_rows_step (Kd.int .i64) (w0 := w0) w0.heap.size (by rfl) (.tmp 20) (.tmp 22) 23 3 _ 8 rfl Try.underlying23 info3_ rfl (by decide) (by omega) _ s.out p.f2 Ap p.f2.length cp (fun k => recol f w2.heap.size 4 k = 4) (fun _ => False) (by rfl) (by rfl) HRC.out.r4 HCP.out.2 (fun _ _ h => h) (fun _ h => h.elim) (fun k hk => recol_ge hk) HB.out HB.out.size (by omega) ?_
  intro v5 w5 hr5 hb5 hg5 hat5
  obtain ⟨A5, c5, rfl⟩ := Kd.R_slice hr5
  have hG5 := HG.out.grown hg5 (R_typed3 HRC.out.r4) (by decide)
  have hR5 := HRC.out.out hg5 _ hr5
  have hS5 := HSP.out.trans (Spare.grown hg5 (R_typed3 HRC.out.r4) (Or.inl rfl))
  have hQ5 := blk_grown HQ.out hg5 (fun e => by obtain ⟨cs, hcs⟩ := R_typed3 HRC.out.r4 q e.symm; rw [HQ.out] at hcs; injection hcs with hcs; injection hcs with _ hcs; exact absurd hcs (by decide))
  have HG5 := Aside0.mk hG5; have HR5 := Aside0.mk hR5; have HS5 := Aside0.mk hS5; have HB5 := Aside0.mk hb5; have HQ5 := Aside0.mk hQ5
  refine hK.out _ _ ⟨(cells7_ hG5).2.2.2.2.1, (cells3_ hQ5).2.2⟩ (fun hS_ => ?_)
  clear hK K hr5 hb5 hg5 hat5 hG5 hR5 hS5 hQ5
  refine norm_ (a' := ?_) ?_ ?_
  rotate_left
  (show Act.put _ (some 23) _ = _; simp only [Act.put, sT, s0, s1, i64_w, i32_w]; rfl)
  refine mL 8 255 511 (N := some 24) (v := ?_) (a' := ?_) HT_ HW_ rfl rfl (by kernel_rfl) (fun _ _ _ h => h) hS_ (by rfl) ?_ ?_ ?_; rotate_left 2; (rintro w' ⟨s0, s1⟩; go_simp; with_reducible rfl); (simp only [Act.put, sT, s0, s1, i64_w, i32_w]; rfl)
  refine mL 9 511 1023 (N := some 25) (v := ?_) (a' := ?_) HT_ HW_ rfl rfl (by kernel_rfl) (fun _ _ _ h => h) hS_ (by rfl) ?_ ?_ ?_; rotate_left 2; (rintro w' ⟨s0, s1⟩; go_simp; with_reducible rfl); (simp only [Act.put, sT, s0, s1, i64_w, i32_w]; rfl)
  refine last_ (i := 10) (N := none) (lB 11 2047) rfl rfl (one_of HT_.out (by kernel_rfl)) (by decide) (fun K hK => ?_)
  obtain ⟨g0, g1, g2, g3, g4, g5, g6⟩ := cells7_ HG5.out
  have f4 := blk_frozen HG5.out 4
  refine skip_ (w1 := w5.setCell ⟨g, 4, none⟩ (.slice A5 (s.out ++ p.f2).length c5)) (by rfl) rfl (by first | (go_simp; done) | (go_simp; rfl)) ?_
  clear g0 g1 g2 g3 g4 g5 g6 f4
  have hG6 := HG5.out.set4 (.slice A5 (s.out ++ p.f2).length c5)
  have hR6 := HR5.out.set HG5.out 4 (.slice A5 (s.out ++ p.f2).length c5)
  have HS6 := Aside0.mk (HS5.out.trans (Spare.set g _ 4 (.slice A5 (s.out ++ p.f2).length c5)))
  have HB6 := Aside0.mk (HB5.out.setCell (p := ⟨g, 4, none⟩) hgb (.slice A5 (s.out ++ p.f2).length c5))
  have HQ6 := Aside0.mk (blk_far HQ5.out (p := ⟨g, 4, none⟩) (fun e => HGQ.out e.symm) (.slice A5 (s.out ++ p.f2).length c5))
  generalize w5.setCell ⟨g, 4, none⟩ (.slice A5 (s.out ++ p.f2).length c5) = w6 at hG6 hR6 HS6 HB6 HQ6 ⊢
  have HG6 := Aside0.mk hG6; have HR6 := Aside0.mk hR6; clear hG6 hR6
  refine hK.out _ _ ?_
  clear hK K
  refine mD HT_ (by kernel_rfl) ?_
  clear hS_ HG HB HSP HQ HCP HRC HG5 HR5 HS5 HB5 HQ5
  go_upto_region 5 with fail
  have hdr_ : Below w6.heap.size w6 w6.drew := (Below.refl _ _).drew
  have HG6 := Aside0.mk (HG6.out.below hdr_)
  have HR6 := Aside0.mk (HR6.out.below hdr_)
  have HB6 := Aside0.mk HB6.out.drew
  have HS6 := Aside0.mk (HS6.out.trans (Spare.below hdr_))
  have HQ6 := Aside0.mk (blk_below HQ6.out hdr_)
  clear hdr_
  refine mS [11] (S := fun w' => w'.cell? ⟨q, 0, none⟩ = some (.int .i64 p.f0) ∧ w'.cell? ⟨q, 1, none⟩ = some (.int .i64 p.f1)) tab68_5 bits68_5 (by kernel_rfl) rfl ⟨(cells3_ HQ6.out).1, (cells3_ HQ6.out).2.1⟩ (fun hS_ HT_ HW_ => ?_)
  generalize w6.drew = w7 at HG6 HR6 HB6 HS6 HQ6 hS_ ⊢
  refine mL 0 0 1 (N := some 26) (v := ?_) (a' := ?_) HT_ HW_ rfl rfl (by kernel_rfl) (fun _ _ _ h => h) hS_ (by rfl) ?_ ?_ ?_; rotate_left 2; (rintro w' ⟨s0, s1⟩; go_simp; with_reducible rfl); (simp only [Act.put, sT, s0, s1, i64_w, i32_w]; rfl)
  refine mL 1 1 3 (N := some 27) (v := ?_) (a' := ?_) HT_ HW_ rfl rfl (by kernel_rfl) (fun _ _ _ h => h) hS_ (by rfl) ?_ ?_ ?_; rotate_left 2; (rintro w' ⟨s0, s1⟩; go_simp; with_reducible rfl); (simp only [Act.put, sT, s0, s1, i64_w, i32_w]; rfl)
  refine mL 2 3 7 (N := some 28) (v := ?_) (a' := ?_) HT_ HW_ rfl rfl (by kernel_rfl) (fun _ _ _ h => h) hS_ (by rfl) ?_ ?_ ?_; rotate_left 2; (rintro w' ⟨s0, s1⟩; go_simp; with_reducible rfl); (simp only [Act.put, sT, s0, s1, i64_w, i32_w]; rfl)
  refine mL 3 7 15 (N := some 29) (v := ?_) (a' := ?_) HT_ HW_ rfl rfl (by kernel_rfl) (fun _ _ _ h => h) hS_ (by rfl) ?_ ?_ ?_; rotate_left 2; (rintro w' ⟨s0, s1⟩; go_simp; with_reducible rfl); (simp only [Act.put, sT, s0, s1, i64_w, i32_w]; rfl)
  refine mL 4 15 31 (N := some 30) (v := ?_) (a' := ?_) HT_ HW_ rfl rfl (by kernel_rfl) (fun _ _ _ h => h) hS_ (by rfl) ?_ ?_ ?_; rotate_left 2; (rintro w' ⟨s0, s1⟩; go_simp; with_reducible rfl); (simp only [Act.put, sT, s0, s1, i64_w, i32_w]; rfl)
  refine mL 5 31 63 (N := some 31) (v := ?_) (a' := ?_) HT_ HW_ rfl rfl (by kernel_rfl) (fun _ _ _ h => h) hS_ (by rfl) ?_ ?_ ?_; rotate_left 2; (rintro w' ⟨s0, s1⟩; go_simp; with_reducible rfl); (simp only [Act.put, sT, s0, s1, i64_w, i32_w]; rfl)
  refine mL 6 63 127 (N := some 32) (v := ?_) (a' := ?_) HT_ HW_ rfl rfl (by kernel_rfl) (fun _ _ _ h => h) hS_ (by rfl) ?_ ?_ ?_; rotate_left 2; (rintro w' ⟨s0, s1⟩; go_simp; with_reducible rfl); (simp only [Act.put, sT, s0, s1, i64_w, i32_w]; rfl)
  refine mL 7 127 255 (N := some 33) (v := ?_) (a' := ?_) HT_ HW_ rfl rfl (by kernel_rfl) (fun _ _ _ h => h) hS_ (by rfl) ?_ ?_ ?_; rotate_left 2; (rintro w' ⟨s0, s1⟩; go_simp; with_reducible rfl); (simp only [Act.put, sT, s0, s1, i64_w, i32_w]; rfl)
  refine one_ (i := 8) (N := none) (lB 12 511) rfl rfl (one_of HT_.out (by kernel_rfl)) (by decide) (fun K hK => ?_)
  obtain ⟨g0, g1, g2, g3, g4, g5, g6⟩ := cells7_ HG6.out
  have f5 := blk_frozen HG6.out 5
  refine skip_ (w1 := w7.setCell ⟨g, 5, none⟩ (.int .i64 p.f0)) (by rfl) rfl (by first | (go_simp; done) | (go_simp; rfl)) ?_
  clear g0 g1 g2 g3 g4 g5 g6 f5
  have hG8 := HG6.out.set5 p.f0
  have hR8 := (HR6.out.set HG6.out 5 (.int .i64 p.f0)).nums s.at_ p.f0 s.upto
  have HS8 := Aside0.mk (HS6.out.trans (Spare.set g _ 5 (.int .i64 p.f0)))
  have HB8 := Aside0.mk (HB6.out.setCell (p := ⟨g, 5, none⟩) hgb (.int .i64 p.f0))
  have HQ8 := Aside0.mk (blk_far HQ6.out (p := ⟨g, 5, none⟩) (fun e => HGQ.out e.symm) (.int .i64 p.f0))
  generalize w7.setCell ⟨g, 5, none⟩ (.int .i64 p.f0) = w8 at hG8 hR8 HS8 HB8 HQ8 ⊢
  have HG8 := Aside0.mk hG8; have HR8 := Aside0.mk hR8; clear hG8 hR8
  refine hK.out _ _ ⟨(cells3_ HQ8.out).1, (cells3_ HQ8.out).2.1⟩ (fun hS_ => ?_)
  clear hK K
  refine mL 9 511 1023 (N := some 34) (v := ?_) (a' := ?_) HT_ HW_ rfl rfl (by kernel_rfl) (fun _ _ _ h => h) hS_ (by rfl) ?_ ?_ ?_; rotate_left 2; (rintro w' ⟨s0, s1⟩; go_simp; with_reducible rfl); (simp only [Act.put, sT, s0, s1, i64_w, i32_w]; rfl)
  refine mL 10 1023 2047 (N := some 35) (v := ?_) (a' := ?_) HT_ HW_ rfl rfl (by kernel_rfl) (fun _ _ _ h => h) hS_ (by rfl) ?_ ?_ ?_; rotate_left 2; (rintro w' ⟨s0, s1⟩; go_simp; with_reducible rfl); (simp only [Act.put, sT, s0, s1, i64_w, i32_w]; rfl)
  refine last_ (i := 11) (N := none) (lB 12 4095) rfl rfl (one_of HT_.out (by kernel_rfl)) (by decide) (fun K hK => ?_)
  obtain ⟨g0, g1, g2, g3, g4, g5, g6⟩ := cells7_ HG8.out
  have f6 := blk_frozen HG8.out 6
  refine skip_ (w1 := w8.setCell ⟨g, 6, none⟩ (.int .i64 p.f1)) (by rfl) rfl (by first | (go_simp; done) | (go_simp; rfl)) ?_
  clear g0 g1 g2 g3 g4 g5 g6 f6
  have hG9 := HG8.out.set6 p.f1
  have hR9 := (HR8.out.set HG8.out 6 (.int .i64 p.f1)).nums s.at_ p.f0 p.f1
  have HS9 := Aside0.mk (HS8.out.trans (Spare.set g _ 6 (.int .i64 p.f1)))
  have HB9 := Aside0.mk (HB8.out.setCell (p := ⟨g, 6, none⟩) hgb (.int .i64 p.f1))
  generalize w8.setCell ⟨g, 6, none⟩ (.int .i64 p.f1) = w9 at hG9 hR9 HS9 HB9 ⊢
  have HG9 := Aside0.mk hG9; have HR9 := Aside0.mk hR9; clear hG9 hR9
  refine hK.out _ _ ?_
  clear hK K
  refine mD HT_ (by kernel_rfl) ?_
  clear HG6 HB6 HS6 HQ6 HR6 HG8 HR8 HS8 HB8 HQ8
  obtain ⟨g0, g1, g2, g3, g4, g5, g6⟩ := cells7_ HG9.out
  have f3 := blk_frozen HG9.out 3
  go_wp2
  go_ret
  have hq3 := HCQ.out _ _ _ _ HR9.out.r3 t2
  have hdrop : s.stored.drop 1 = r := by rw [HST.out]; rfl
  have hrl : s.stored.length - 1 = r.length := by rw [HST.out]; simp
  simp only at hq3
  rw [hdrop] at hq3
  have hR10 : SinkRows w9 w0.heap.size _ { s with out := s.out ++ p.f2, last := p.f0, upto := p.f1, stored := r } _ _ (.slice A' (s.stored.length - 1) (c3 - 1)) _ := ⟨HR9.out.r0, HR9.out.r2, hq3, HR9.out.r4⟩
  exact ⟨rfl, ⟨_, _, _, _, _, HG9.out.set3 _, hR10.set HG9.out 3 _⟩, HB9.out.setCell (p := ⟨g, 3, none⟩) hgb _, HS9.out.trans (Spare.set g _ 3 _)⟩
end Go.Proofs.Ytjndadjhhknggaa.Q
end
section
/- Contracts of a function, printed for this claim by a program of ours over the kit's print. -/
namespace Go.Proofs.Ytjndadjhhknggaa.Q
open Go.RowKit Go.Proofs.YtjndadjhhknggaaW.PrintWords Go.Proofs.YtjndadjhhknggaaW.PrintLast Go.Proofs.YtjndadjhhknggaaW.PrintMore
attribute [local go_sem] max2_int min2_int max_two min_two max_three min_three max_four min_four   -- for this text's walks alone
set_option linter.unusedVariables false
set_option linter.unusedSimpArgs false

/-! ### impl_Sink_stored: function 69 -/
def impl_Sink_stored.f (l0_0 : List Int) (a0_1 : Int) (l0_2 : List Int) (l0_3 : List (S68)) (l0_4 : List Int) (a0_5 : Int) (a0_6 : Int) : Option (Int) := if (wrap64 ((l0_3.length : Int) - 1)) ≥ 0 then (if 0 ≤ (wrap64 ((l0_3.length : Int) - 1)) then (if (wrap64 ((l0_3.length : Int) - 1)) < (l0_3.length : Int) then (some ((rd_T68 l0_3 (wrap64 ((l0_3.length : Int) - 1))).f1)) else (none)) else (none)) else (some a0_6)
set_option maxHeartbeats 8000000 in
set_option maxRecDepth 100000 in
theorem impl_Sink_stored.calls (A0_0 : Option Addr) (c0_0 : Nat) (l0_0 : List Int) (a0_1 : Int) (A0_2 : Option Addr) (c0_2 : Nat) (l0_2 : List Int) (A0_3 : Option Addr) (c0_3 : Nat) (l0_3 : List (S68)) (A0_4 : Option Addr) (c0_4 : Nat) (l0_4 : List Int) (a0_5 : Int) (a0_6 : Int) (r : Int) (w : World) (hr0_0 : Kd.C (Kd.int .i64) w A0_0 l0_0.length l0_0) (hc0_0 : l0_0.length ≤ c0_0) (hr0_2 : Kd.C (Kd.int .i64) w A0_2 l0_2.length l0_2) (hc0_2 : l0_2.length ≤ c0_2) (hr0_3 : Kd.C k68 w A0_3 l0_3.length l0_3) (hc0_3 : l0_3.length ≤ c0_3) (hr0_4 : Kd.C (Kd.int .i64) w A0_4 l0_4.length l0_4) (hc0_4 : l0_4.length ≤ c0_4) (h : impl_Sink_stored.f l0_0 a0_1 l0_2 l0_3 l0_4 a0_5 a0_6 = some r) :
  Calls Try.prog 69 #[.agg #[.slice A0_0 l0_0.length c0_0, .int .i64 a0_1, .slice A0_2 l0_2.length c0_2, .slice A0_3 l0_3.length c0_3, .slice A0_4 l0_4.length c0_4, .int .i64 a0_5, .int .i64 a0_6]] w fun e w' => e = .returned (.int .i64 r) ∧ Below w.heap.size w w' := by
 have hu28 := Try.underlying28
 have HR0_0 := Aside0.mk hr0_0
 have HC0_0 := Aside0.mk hc0_0
 clear hr0_0 hc0_0
 have HR0_2 := Aside0.mk hr0_2
 have HC0_2 := Aside0.mk hc0_2
 clear hr0_2 hc0_2
 have HR0_3 := Aside0.mk hr0_3
 have HC0_3 := Aside0.mk hc0_3
 clear hr0_3 hc0_3
 have HR0_4 := Aside0.mk hr0_4
 have HC0_4 := Aside0.mk hc0_4
 clear hr0_4 hc0_4
 have HB := Aside0.mk (Below.refl w.heap.size w)
 have H : (if (wrap64 ((l0_3.length : Int) - 1)) ≥ 0 then (if 0 ≤ (wrap64 ((l0_3.length : Int) - 1)) then (if (wrap64 ((l0_3.length : Int) - 1)) < (l0_3.length : Int) then (some ((rd_T68 l0_3 (wrap64 ((l0_3.length : Int) - 1))).f1)) else (none)) else (none)) else (some a0_6)) = some r := h
 clear h
 by_cases c2 : (wrap64 ((l0_3.length : Int) - 1)) ≥ 0
 ·rw [if_pos c2] at H
  have c2b0 : decide (0 ≤ (wrap64 ((l0_3.length : Int) - 1))) = true := decide_eq_true c2
  clear c2
  obtain ⟨ji3, hji3⟩ : ∃ j_ : Int, (wrap64 ((l0_3.length : Int) - 1)) = j_ := ⟨_, rfl⟩
  replace H : (if 0 ≤ (ji3) then (if (ji3) < (l0_3.length : Int) then (some ((rd_T68 l0_3 (ji3)).f1)) else (none)) else (none)) = some r := by first | (rw [hji3] at H; exact H) | (simp only [hji3] at H ⊢; exact H)
  (try rw [hji3] at c2b0)
  have hji3w : (IntKind.i64.wrap ((l0_3.length : Int) - 1)) = ji3 := (i64_w _).trans hji3
  by_cases c4 : 0 ≤ (ji3)
  ·rw [if_pos c4] at H
   have c4b0 : decide (0 ≤ (ji3)) = true := decide_eq_true c4
   clear c4
   by_cases c5 : (ji3) < (l0_3.length : Int)
   ·rw [if_pos c5] at H
    have c5b0 : decide ((ji3) < (l0_3.length : Int)) = true := decide_eq_true c5
    clear c5
    obtain rfl := Option.some.inj H
    go_enter Try.func69, Try.ntmps69
    go_wp2_with (first | ((with_reducible refine gate_dst (N := 1) rfl ?_); refine box_event ?hg (N := 1) ?hd (cs := #[.slice A0_0 l0_0.length c0_0, .int .i64 a0_1, .slice A0_2 l0_2.length c0_2, .slice A0_3 l0_3.length c0_3, .slice A0_4 l0_4.length c0_4, .int .i64 a0_5, .int .i64 a0_6]) (t := 28) ?hr ?_; (case hd => rfl); (case hg => rfl); (case hr => first | (go_simp; done) | (go_simp; rfl)); intro gb101 hg w6 hbox hb; have n0_ := Aside0.mk (below_step (by repeat (first | (with_reducible first | exact HB.out | apply below_alloc | apply pw_below_drewN | apply below_drew1) | exact HB.out)) hb); have n1_ := Aside0.mk (hbox); have n2_ := Aside0.mk ((by rw [hg]; exact (below_size (by repeat (first | (with_reducible first | exact HB.out | apply below_alloc | apply pw_below_drewN | apply below_drew1) | exact HB.out))) : w.heap.size ≤ gb101)); have n3_ := Aside0.mk ((by rw [hg]; exact (below_size (by repeat (first | (with_reducible first | exact HB.out | apply below_alloc | apply pw_below_drewN | apply below_drew1) | exact HB.out))) : w.heap.size ≤ gb101)); clear HB; have HB := n0_; have BK101 := n1_; have GW101 := n2_; have GE101 := n3_; clear n0_ n1_ n2_ n3_; clear hb hbox hg; have hcz7_0 : w6.cell? ⟨gb101, 0, none⟩ = some (.slice A0_0 l0_0.length c0_0) := (blk_cell BK101.out 0).trans rfl; have hcz7_1 : w6.cell? ⟨gb101, 1, none⟩ = some (.int .i64 a0_1) := (blk_cell BK101.out 1).trans rfl; have hcz7_2 : w6.cell? ⟨gb101, 2, none⟩ = some (.slice A0_2 l0_2.length c0_2) := (blk_cell BK101.out 2).trans rfl; have hcz7_3 : w6.cell? ⟨gb101, 3, none⟩ = some (.slice A0_3 l0_3.length c0_3) := (blk_cell BK101.out 3).trans rfl; have hcz7_4 : w6.cell? ⟨gb101, 4, none⟩ = some (.slice A0_4 l0_4.length c0_4) := (blk_cell BK101.out 4).trans rfl; have hcz7_5 : w6.cell? ⟨gb101, 5, none⟩ = some (.int .i64 a0_5) := (blk_cell BK101.out 5).trans rfl; have hcz7_6 : w6.cell? ⟨gb101, 6, none⟩ = some (.int .i64 a0_6) := (blk_cell BK101.out 6).trans rfl; have hfz7_0 := blk_frozen BK101.out 0; have hfz7_1 := blk_frozen BK101.out 1; have hfz7_2 := blk_frozen BK101.out 2; have hfz7_3 := blk_frozen BK101.out 3; have hfz7_4 := blk_frozen BK101.out 4; have hfz7_5 := blk_frozen BK101.out 5; have hfz7_6 := blk_frozen BK101.out 6; have p102 : 0 ≤ ((ji3) : Int) := of_decide_eq_true (by first | (with_reducible assumption) | assumption); have q102 : (ji3) < (l0_3.length : Int) := of_decide_eq_true (by first | (with_reducible assumption) | assumption); obtain ⟨ad102, A102_2, c102_2, e102, hx102_0, hx102_1, hx102_2, hl102_2, hi102_2⟩ := at_T68 HR0_3.out (ji3) p102 q102; cases e102; replace hx102_0 := (HB.out.cell (World.block_lt_of_cell? w _ hx102_0)).trans hx102_0; replace hx102_1 := (HB.out.cell (World.block_lt_of_cell? w _ hx102_1)).trans hx102_1; replace hx102_2 := (HB.out.cell (World.block_lt_of_cell? w _ hx102_2)).trans hx102_2; have HR102_2 := Aside0.mk hi102_2; have HC102_2 := Aside0.mk hl102_2; clear hi102_2 hl102_2; replace p102 := eq_true p102; replace q102 := eq_true q102))
    go_ret
    exact ⟨by first | rfl | (simp [errW_none, errW_some] <;> rfl) | (simp only [← hji3]; first | rfl | (simp [errW_none, errW_some] <;> rfl)) | (simp [*, errW_none, errW_some] <;> rfl), by repeat (first | (with_reducible first | exact HB.out | apply below_alloc | apply pw_below_drewN | apply below_drew1 | refine below_set ?_ GE101.out) | exact HB.out)⟩
   ·rw [if_neg c5] at H
    exact absurd H (by simp)
  ·rw [if_neg c4] at H
   exact absurd H (by simp)
 ·rw [if_neg c2] at H
  have c2b0 : decide (0 ≤ (wrap64 ((l0_3.length : Int) - 1))) = false := decide_eq_false c2
  clear c2
  obtain rfl := Option.some.inj H
  go_enter Try.func69, Try.ntmps69
  go_wp2_with (first | ((with_reducible refine gate_dst (N := 1) rfl ?_); refine box_event ?hg (N := 1) ?hd (cs := #[.slice A0_0 l0_0.length c0_0, .int .i64 a0_1, .slice A0_2 l0_2.length c0_2, .slice A0_3 l0_3.length c0_3, .slice A0_4 l0_4.length c0_4, .int .i64 a0_5, .int .i64 a0_6]) (t := 28) ?hr ?_; (case hd => rfl); (case hg => rfl); (case hr => first | (go_simp; done) | (go_simp; rfl)); intro gb101 hg w8 hbox hb; have n0_ := Aside0.mk (below_step (by repeat (first | (with_reducible first | exact HB.out | apply below_alloc | apply pw_below_drewN | apply below_drew1) | exact HB.out)) hb); have n1_ := Aside0.mk (hbox); have n2_ := Aside0.mk ((by rw [hg]; exact (below_size (by repeat (first | (with_reducible first | exact HB.out | apply below_alloc | apply pw_below_drewN | apply below_drew1) | exact HB.out))) : w.heap.size ≤ gb101)); have n3_ := Aside0.mk ((by rw [hg]; exact (below_size (by repeat (first | (with_reducible first | exact HB.out | apply below_alloc | apply pw_below_drewN | apply below_drew1) | exact HB.out))) : w.heap.size ≤ gb101)); clear HB; have HB := n0_; have BK101 := n1_; have GW101 := n2_; have GE101 := n3_; clear n0_ n1_ n2_ n3_; clear hb hbox hg; have hcz9_0 : w8.cell? ⟨gb101, 0, none⟩ = some (.slice A0_0 l0_0.length c0_0) := (blk_cell BK101.out 0).trans rfl; have hcz9_1 : w8.cell? ⟨gb101, 1, none⟩ = some (.int .i64 a0_1) := (blk_cell BK101.out 1).trans rfl; have hcz9_2 : w8.cell? ⟨gb101, 2, none⟩ = some (.slice A0_2 l0_2.length c0_2) := (blk_cell BK101.out 2).trans rfl; have hcz9_3 : w8.cell? ⟨gb101, 3, none⟩ = some (.slice A0_3 l0_3.length c0_3) := (blk_cell BK101.out 3).trans rfl; have hcz9_4 : w8.cell? ⟨gb101, 4, none⟩ = some (.slice A0_4 l0_4.length c0_4) := (blk_cell BK101.out 4).trans rfl; have hcz9_5 : w8.cell? ⟨gb101, 5, none⟩ = some (.int .i64 a0_5) := (blk_cell BK101.out 5).trans rfl; have hcz9_6 : w8.cell? ⟨gb101, 6, none⟩ = some (.int .i64 a0_6) := (blk_cell BK101.out 6).trans rfl; have hfz9_0 := blk_frozen BK101.out 0; have hfz9_1 := blk_frozen BK101.out 1; have hfz9_2 := blk_frozen BK101.out 2; have hfz9_3 := blk_frozen BK101.out 3; have hfz9_4 := blk_frozen BK101.out 4; have hfz9_5 := blk_frozen BK101.out 5; have hfz9_6 := blk_frozen BK101.out 6))
  go_ret
  exact ⟨by first | rfl | (simp [errW_none, errW_some] <;> rfl) | (simp [*, errW_none, errW_some] <;> rfl), by repeat (first | (with_reducible first | exact HB.out | apply below_alloc | apply pw_below_drewN | apply below_drew1 | refine below_set ?_ GE101.out) | exact HB.out)⟩

end Go.Proofs.Ytjndadjhhknggaa.Q
end
section
/- Sink.crash, Sink.step and Sink.often, out of the steps. -/
namespace Go.Proofs.Ytjndadjhhknggaa.Q
open Go.RowKit Go.Proofs.YtjndadjhhknggaaW.PrintWords Go.Proofs.YtjndadjhhknggaaW.PrintLast
set_option linter.unusedVariables false
set_option linter.unusedSimpArgs false
def T40_13 : Bool × List (List Nat × List Nat) := (true, [([], []), ([], []), ([1], [1]), ([2], [2]), ([3], [3]), ([], []), ([5], [5]), ([6], [6]), ([7], [7]), ([8], [8]), ([9], [9]), ([4, 10], [4, 10]), ([0, 0, 1, 2, 3, 4, 5, 6, 7, 8, 9, 10, 11], [0]), ([12, 0, 1, 2, 3, 4, 5, 6, 7, 8, 9, 10, 11], [12]), ([13, 11, 0, 1, 2, 3, 4, 5, 6, 7, 8, 9, 10, 11], [11, 13])])
def B40_13 : List Nat := [0, 0, 2, 6, 14, 0, 32, 96, 224, 480, 992, 2046, 4095, 8191, 16383]
theorem tab40_13 : rtab .any (opsOf Try.f40 13) = T40_13 := by kernel_rfl
theorem bits40_13 : waitsOk T40_13.2 B40_13 = true := by kernel_rfl
theorem wrap_id (x : Int) (h0 : -9223372036854775808 ≤ x) (h1 : x ≤ 9223372036854775807) : wrap64 x = x := by unfold wrap64; omega
theorem stored_f (s : SK) (hl : s.stored.length ≤ 1000) : impl_Sink_stored.f s.src s.at_ s.pend s.stored s.out s.last s.upto = some (fromK s) := by
 unfold impl_Sink_stored.f fromK
 rw [wrap_id _ (by omega) (by omega)]
 by_cases h : s.stored.length = 0
 ·rw [if_neg (by omega), if_pos h]
 ·rw [if_pos (by omega), if_pos (by omega), if_pos (by omega), if_neg h]
  have e : rd_T68 s.stored ((s.stored.length : Int) - 1) = s.stored.getD (s.stored.length - 1) z68 := by
   show s.stored.getD ((s.stored.length : Int) - 1).toNat z68 = _
   rw [show ((s.stored.length : Int) - 1).toNat = s.stored.length - 1 from by omega]
  rw [e]
set_option maxHeartbeats 4000000 in
theorem crash_calls (g : Nat) (s : SK) (w0 w : World) (h : SinkAt g w w0.heap.size s) (hl : s.stored.length ≤ 1000) (hB : Below w0.heap.size w0 w) (hgb : w0.heap.size ≤ g) :
  Calls Try.prog 48 #[.pointer (some ⟨g, 0, none⟩)] w fun e w' => StepRet g w0 w w' e s (some (crashK s)) := by
 have hok := True.intro
 obtain ⟨f, v0, v2, v3, v4, hg, hr⟩ := h
 obtain ⟨A0, c0, rfl⟩ := Kd.R_slice hr.r0
 obtain ⟨A2, c2, rfl⟩ := Kd.R_slice hr.r2
 obtain ⟨A3, c3, rfl, hc3⟩ := Kd.Q_slice hr.r3
 obtain ⟨A4, c4, rfl⟩ := Kd.R_slice hr.r4
 have HG := Aside0.mk hg
 have HR := Aside0.mk hr
 have HOK := Aside0.mk hok
 have HB := Aside0.mk hB
 obtain ⟨g0, g1, g2, g3, g4, g5, g6⟩ := cells7_ hg
 have hu28 := Try.underlying28
 have HC := Aside0.mk (impl_Sink_stored.calls A0 c0 s.src s.at_ A2 c2 s.pend A3 c3 s.stored A4 c4 s.out s.last s.upto _ w (Kd.R_reads' hr.r0).2.2 (Kd.R_reads' hr.r0).2.1 (Kd.R_reads' hr.r2).2.2 (Kd.R_reads' hr.r2).2.1 (Kd.Q_reads' hr.r3).2.2 hc3 (Kd.R_reads' hr.r4).2.2 (Kd.R_reads' hr.r4).2.1 (stored_f s hl))
 clear hg hr hok hB hl hc3
 go_enter Try.func48, Try.ntmps48
 go_wp2_with fail
 go_at_call 69; refine HC.out.mono ?_; rintro e w1 ⟨rfl, hb1⟩
 have HG1 := Aside0.mk (HG.out.below hb1)
 have HR1 := Aside0.mk (HR.out.below hb1)
 have HB1 := Aside0.mk (below_then HB.out HB.out.size hb1)
 have HS1 := Aside0.mk (Spare.below (g := g) hb1)
 clear hb1 g0 g1 g2 g3 g4 g5 g6 HC
 obtain ⟨g0, g1, g2, g3, g4, g5, g6⟩ := cells7_ HG1.out
 have f1 := blk_frozen HG1.out 1
 have f2 := blk_frozen HG1.out 2
 go_wp2
 go_ret
 have hG2 := HG1.out.set1 (fromK s)
 have hR2 := (HR1.out.set HG1.out 1 (.int .i64 (fromK s))).nums (fromK s) s.last s.upto
 exact ⟨rfl, ⟨f, _, _, _, _, hG2.set2 (.slice none 0 0), (hR2.set hG2 2 (.slice none 0 0)).noPend⟩, (HB1.out.setCell (p := ⟨g, 1, none⟩) hgb _).setCell (p := ⟨g, 2, none⟩) hgb _, (HS1.out.trans (Spare.set g _ 1 _)).trans (Spare.set g _ 2 _)⟩
theorem stepK_other (s : SK) (kind : Int) (h1 : kind ≠ 1) (h2 : kind ≠ 2) (h3 : kind ≠ 3) (h4 : kind ≠ 4) (h5 : kind ≠ 5) : stepK s kind = none := by
 unfold stepK
 rw [if_neg h1, if_neg h2, if_neg h3, if_neg h4, if_neg h5]
set_option maxHeartbeats 8000000 in
set_option maxRecDepth 100000 in
theorem step_calls (g : Nat) (s : SK) (kind : Int) (w0 w : World) (h : SinkAt g w w0.heap.size s) (hok : SKOk s) (hB : Below w0.heap.size w0 w) (hgb : w0.heap.size ≤ g) :
  Calls Try.prog 40 #[.pointer (some ⟨g, 0, none⟩), .int .i64 kind] w fun e w' => StepRet g w0 w w' e s (stepK s kind) := by
 by_cases k1 : kind = 1
 ·subst k1
  have HC := Aside0.mk (read_calls g s w0 w h hok hB hgb)
  generalize stepK s 1 = o at HC
  clear h hok hB
  go_enter Try.func40, Try.ntmps40
  go_wp2_with (go_at_call 67; refine HC.out.mono ?_; rintro e w' ⟨rfl, h1, h2, h3⟩)
  go_ret
  exact ⟨rfl, h1, h2, h3⟩
 by_cases k2 : kind = 2
 ·subst k2
  have HC := Aside0.mk (prepare_calls g s w0 w h hok hB hgb)
  generalize stepK s 2 = o at HC
  clear h hok hB k1
  go_enter Try.func40, Try.ntmps40
  go_wp2_with (go_at_call 50; refine HC.out.mono ?_; rintro e w' ⟨rfl, h1, h2, h3⟩)
  go_ret
  exact ⟨rfl, h1, h2, h3⟩
 by_cases k3 : kind = 3
 ·subst k3
  have HC := Aside0.mk (commit_calls g s w0 w h hok hB hgb)
  generalize stepK s 3 = o at HC
  clear h hok hB k1 k2
  go_enter Try.func40, Try.ntmps40
  go_wp2_with (go_at_call 68; refine HC.out.mono ?_; rintro e w' ⟨rfl, h1, h2, h3⟩)
  go_ret
  exact ⟨rfl, h1, h2, h3⟩
 by_cases k4 : kind = 4
 ·subst k4
  have HC := Aside0.mk (crash_calls g s w0 w h hok.stored hB hgb)
  have hst : stepK s 4 = some (crashK s) := rfl
  rw [hst]
  generalize some (crashK s) = o at HC
  clear h hok hB k1 k2 k3
  go_enter Try.func40, Try.ntmps40
  go_wp2_with (go_at_call 48; refine HC.out.mono ?_; rintro e w' ⟨rfl, h1, h2, h3⟩)
  go_ret
  exact ⟨rfl, h1, h2, h3⟩
 by_cases k5 : kind = 5
 ·subst k5
  clear k1 k2 k3 k4
  have hl := hok.stored
  obtain ⟨f, v0, v2, v3, v4, hg, hr⟩ := h
  obtain ⟨A0, c0, rfl⟩ := Kd.R_slice hr.r0
  obtain ⟨A2, c2, rfl⟩ := Kd.R_slice hr.r2
  obtain ⟨A3, c3, rfl, hc3⟩ := Kd.Q_slice hr.r3
  obtain ⟨A4, c4, rfl⟩ := Kd.R_slice hr.r4
  have HG := Aside0.mk hg
  have HR := Aside0.mk hr
  have HOK := Aside0.mk hok
  have HB := Aside0.mk hB
  obtain ⟨g0, g1, g2, g3, g4, g5, g6⟩ := cells7_ hg
  have hu28 := Try.underlying28
  by_cases q : s.stored.length < 2
  ·have hst : stepK s 5 = none := by unfold stepK; rw [if_neg (by decide), if_neg (by decide), if_neg (by decide), if_neg (by decide), if_pos rfl, if_pos q]
   rw [hst]
   have q1 : (s.stored.length : Int) < 2 := by omega
   clear hst hg hr hok hB
   go_enter Try.func40, Try.ntmps40
   go_wp2
   go_ret
   exact ⟨rfl, ⟨f, _, _, _, _, HG.out, HR.out⟩, HB.out, Spare.refl _ _⟩
  ·have hst : stepK s 5 = some (crashK { s with stored := s.stored.take (s.stored.length - 1) }) := by unfold stepK; rw [if_neg (by decide), if_neg (by decide), if_neg (by decide), if_neg (by decide), if_pos rfl, if_neg q]
   rw [hst]
   have q1 : ¬ (s.stored.length : Int) < 2 := by omega
   have hw1 : IntKind.i64.wrap ((s.stored.length : Int) - 1) = (s.stored.length : Int) - 1 := IntWalk.i64_in _ (by omega)
   have q2 : 0 ≤ (s.stored.length : Int) - 1 := by omega
   have q2' : 1 ≤ (s.stored.length : Int) := by omega
   have q3 : (s.stored.length : Int) - 1 ≤ (c3 : Int) := by omega
   have HTK := Aside0.mk (show ∀ (W : World) (ok : Nat → Prop), Kd.Q k68 68 W w0.heap.size ok (.slice A3 s.stored.length c3) s.stored → Kd.Q k68 68 W w0.heap.size ok (.slice A3 (s.stored.length - 1) c3) (s.stored.take (s.stored.length - 1)) from fun W ok h => Kd.Q_take h (by omega))
   clear hst hg hr hok hB
   go_enter Try.func40, Try.ntmps40
   go_upto_region 13 with fail
   clear hl q q2
   have hdr_ : Below w.heap.size w w.drew := (Below.refl _ _).drew
   have HG := Aside0.mk (HG.out.below hdr_)
   have HR := Aside0.mk (HR.out.below hdr_)
   have HB := Aside0.mk HB.out.drew
   have HSP := Aside0.mk (Spare.below (g := g) hdr_)
   clear hdr_ g0 g1 g2 g3 g4 g5 g6
   refine mS [14] (S := fun w' => w'.cell? ⟨g, 3, none⟩ = some (.slice A3 s.stored.length c3)) tab40_13 bits40_13 (by kernel_rfl) rfl (cells7_ HG.out).2.2.2.1 (fun hS_ HT_ HW_ => ?_)
   generalize w.drew = w2 at HG HR HB HSP hS_ ⊢
   refine mL 0 0 1 (N := some 30) (v := ?_) (a' := ?_) HT_ HW_ rfl rfl (by kernel_rfl) (fun _ _ _ h => h) hS_ (by rfl) ?_ ?_ ?_; rotate_left 2; (rintro w' s0; go_simp; with_reducible rfl); (simp only [Act.put, sT, s0, s1, i64_w, i32_w]; rfl)
   refine mL 1 1 3 (N := some 31) (v := ?_) (a' := ?_) HT_ HW_ rfl rfl (by kernel_rfl) (fun _ _ _ h => h) hS_ (by rfl) ?_ ?_ ?_; rotate_left 2; (rintro w' s0; go_simp; with_reducible rfl); (simp only [Act.put, sT, s0, s1, i64_w, i32_w]; rfl)
   refine mL 2 3 7 (N := some 32) (v := ?_) (a' := ?_) HT_ HW_ rfl rfl (by kernel_rfl) (fun _ _ _ h => h) hS_ (by rfl) ?_ ?_ ?_; rotate_left 2; (rintro w' s0; go_simp; with_reducible rfl); (simp only [Act.put, sT, s0, s1, i64_w, i32_w]; rfl)
   refine mL 3 7 15 (N := some 33) (v := ?_) (a' := ?_) HT_ HW_ rfl rfl (by kernel_rfl) (fun _ _ _ h => h) hS_ (by rfl) ?_ ?_ ?_; rotate_left 2; (rintro w' s0; go_simp; with_reducible rfl); (simp only [Act.put, sT, s0, s1, i64_w, i32_w]; rfl)
   refine mL 4 15 31 (N := some 34) (v := ?_) (a' := ?_) HT_ HW_ rfl rfl (by kernel_rfl) (fun _ _ _ h => h) hS_ (by rfl) ?_ ?_ ?_; rotate_left 2; (rintro w' s0; go_simp; with_reducible rfl); (simp only [Act.put, sT, s0, s1, i64_w, i32_w]; rfl)
   refine mL 5 31 63 (N := some 35) (v := ?_) (a' := ?_) HT_ HW_ rfl rfl (by kernel_rfl) (fun _ _ _ h => h) hS_ (by rfl) ?_ ?_ ?_; rotate_left 2; (rintro w' s0; go_simp; with_reducible rfl); (simp only [Act.put, sT, s0, s1, i64_w, i32_w]; rfl)
   refine mL 6 63 127 (N := some 36) (v := ?_) (a' := ?_) HT_ HW_ rfl rfl (by kernel_rfl) (fun _ _ _ h => h) hS_ (by rfl) ?_ ?_ ?_; rotate_left 2; (rintro w' s0; go_simp; with_reducible rfl); (simp only [Act.put, sT, s0, s1, i64_w, i32_w]; rfl)
   refine mL 7 127 255 (N := some 37) (v := ?_) (a' := ?_) HT_ HW_ rfl rfl (by kernel_rfl) (fun _ _ _ h => h) hS_ (by rfl) ?_ ?_ ?_; rotate_left 2; (rintro w' s0; go_simp; with_reducible rfl); (simp only [Act.put, sT, s0, s1, i64_w, i32_w]; rfl)
   refine mL 8 255 511 (N := some 38) (v := ?_) (a' := ?_) HT_ HW_ rfl rfl (by kernel_rfl) (fun _ _ _ h => h) hS_ (by rfl) ?_ ?_ ?_; rotate_left 2; (rintro w' s0; go_simp; with_reducible rfl); (simp only [Act.put, sT, s0, s1, i64_w, i32_w]; rfl)
   refine mL 9 511 1023 (N := some 39) (v := ?_) (a' := ?_) HT_ HW_ rfl rfl (by kernel_rfl) (fun _ _ _ h => h) hS_ (by rfl) ?_ ?_ ?_; rotate_left 2; (rintro w' s0; go_simp; with_reducible rfl); (simp only [Act.put, sT, s0, s1, i64_w, i32_w]; rfl)
   refine mL 10 1023 2047 (N := some 40) (v := ?_) (a' := ?_) HT_ HW_ rfl rfl (by kernel_rfl) (fun _ _ _ h => h) hS_ (by rfl) ?_ ?_ ?_; rotate_left 2; (rintro w' s0; go_simp; with_reducible rfl); (simp only [Act.put, sT, s0, s1, i64_w, i32_w]; rfl)
   refine mL 11 2047 4095 (N := some 41) (v := ?_) (a' := ?_) HT_ HW_ rfl rfl (by kernel_rfl) (fun _ _ _ h => h) hS_ (by rfl) ?_ ?_ ?_; rotate_left 2; (rintro w' s0; go_simp; with_reducible rfl); (simp only [Act.put, sT, s0, s1, i64_w, i32_w]; rfl)
   refine mL 12 4095 8191 (N := some 42) (v := ?_) (a' := ?_) HT_ HW_ rfl rfl (by kernel_rfl) (fun _ _ _ h => h) hS_ (by rfl) ?_ ?_ ?_; rotate_left 2; (rintro w' s0; go_simp; with_reducible rfl); (simp only [Act.put, sT, s0, s1, i64_w, i32_w]; rfl)
   refine mL 13 8191 16383 (N := some 43) (v := ?_) (a' := ?_) HT_ HW_ rfl rfl (by kernel_rfl) (fun _ _ _ h => h) hS_ (by rfl) ?_ ?_ ?_; rotate_left 2; (rintro w' s0; go_simp; with_reducible rfl); (simp only [Act.put, sT, s0, s1, i64_w, i32_w]; rfl)
   refine last_ (i := 14) (N := none) (lB 15 32767) rfl rfl (one_of HT_.out (by kernel_rfl)) (by decide) (fun K hK => ?_)
   obtain ⟨g0, g1, g2, g3, g4, g5, g6⟩ := cells7_ HG.out
   have f3 := blk_frozen HG.out 3
   refine skip_ (w1 := w2.setCell ⟨g, 3, none⟩ (.slice A3 (s.stored.length - 1) c3)) (by rfl) rfl (by first | (go_simp; done) | (go_simp; rfl)) ?_
   clear g0 g1 g2 g3 g4 g5 g6 f3
   have hG6 := HG.out.set3 (.slice A3 (s.stored.length - 1) c3)
   have hR5 : SinkRows w2 w0.heap.size f { s with stored := s.stored.take (s.stored.length - 1) } (.slice A0 s.src.length c0) (.slice A2 s.pend.length c2) (.slice A3 (s.stored.length - 1) c3) (.slice A4 s.out.length c4) := ⟨HR.out.r0, HR.out.r2, HTK.out _ _ HR.out.r3, HR.out.r4⟩
   have hR6 := hR5.set HG.out 3 (.slice A3 (s.stored.length - 1) c3)
   have HS6 := Aside0.mk (HSP.out.trans (Spare.set g _ 3 (.slice A3 (s.stored.length - 1) c3)))
   have HB6 := Aside0.mk (HB.out.setCell (p := ⟨g, 3, none⟩) hgb (.slice A3 (s.stored.length - 1) c3))
   generalize w2.setCell ⟨g, 3, none⟩ (.slice A3 (s.stored.length - 1) c3) = w6 at hG6 hR6 HS6 HB6 ⊢
   have HC := Aside0.mk (crash_calls g { s with stored := s.stored.take (s.stored.length - 1) } w0 w6 ⟨f, _, _, _, _, hG6, hR6⟩ (by show (s.stored.take _).length ≤ 1000; have := HOK.out.stored; rw [List.length_take]; omega) HB6.out hgb)
   clear hG6 hR6
   refine hK.out _ _ ?_
   clear hK K
   refine mD HT_ (by kernel_rfl) ?_
   go_wp2_with (go_at_call 48; refine HC.out.mono ?_; rintro e w' ⟨rfl, h1, h2, h3⟩)
   go_ret
   exact ⟨rfl, h1, h2, HS6.out.trans h3⟩
 ·have hst := stepK_other s kind k1 k2 k3 k4 k5
  rw [hst]
  have e1 : (kind == 1) = false := by simp [k1]
  have e2 : (kind == 2) = false := by simp [k2]
  have e3 : (kind == 3) = false := by simp [k3]
  have e4 : (kind == 4) = false := by simp [k4]
  have e5 : (kind == 5) = false := by simp [k5]
  have H := Aside0.mk h
  have HB := Aside0.mk hB
  clear h hok hB hst k1 k2 k3 k4 k5
  go_enter Try.func40, Try.ntmps40
  go_wp2
  go_ret
  exact ⟨rfl, H.out, HB.out, Spare.refl _ _⟩
end Go.Proofs.Ytjndadjhhknggaa.Q
end
section
/- Contracts of a function, printed for this claim by a program of ours over the kit's print. -/
namespace Go.Proofs.Ytjndadjhhknggaa.Q
open Go.RowKit Go.Proofs.YtjndadjhhknggaaW.PrintWords Go.Proofs.YtjndadjhhknggaaW.PrintLast Go.Proofs.YtjndadjhhknggaaW.PrintMore
attribute [local go_sem] max2_int min2_int max_two min_two max_three min_three max_four min_four   -- for this text's walks alone
set_option linter.unusedVariables false
set_option linter.unusedSimpArgs false

/-! ### spec_l16From: function 74 -/
def spec_l16From.f (l0_0 : List Int) (a0_1 : Int) (l0_2 : List Int) (l0_3 : List (S68)) (l0_4 : List Int) (a0_5 : Int) (a0_6 : Int) : Option (Int) := if (l0_3.length : Int) > 0 then (if 0 ≤ (wrap64 ((l0_3.length : Int) - 1)) then (if (wrap64 ((l0_3.length : Int) - 1)) < (l0_3.length : Int) then (some ((rd_T68 l0_3 (wrap64 ((l0_3.length : Int) - 1))).f1)) else (none)) else (none)) else (some a0_6)
set_option maxHeartbeats 8000000 in
set_option maxRecDepth 100000 in
theorem spec_l16From.calls (A0_0 : Option Addr) (c0_0 : Nat) (l0_0 : List Int) (a0_1 : Int) (A0_2 : Option Addr) (c0_2 : Nat) (l0_2 : List Int) (A0_3 : Option Addr) (c0_3 : Nat) (l0_3 : List (S68)) (A0_4 : Option Addr) (c0_4 : Nat) (l0_4 : List Int) (a0_5 : Int) (a0_6 : Int) (r : Int) (w : World) (hr0_0 : Kd.C (Kd.int .i64) w A0_0 l0_0.length l0_0) (hc0_0 : l0_0.length ≤ c0_0) (hr0_2 : Kd.C (Kd.int .i64) w A0_2 l0_2.length l0_2) (hc0_2 : l0_2.length ≤ c0_2) (hr0_3 : Kd.C k68 w A0_3 l0_3.length l0_3) (hc0_3 : l0_3.length ≤ c0_3) (hr0_4 : Kd.C (Kd.int .i64) w A0_4 l0_4.length l0_4) (hc0_4 : l0_4.length ≤ c0_4) (h : spec_l16From.f l0_0 a0_1 l0_2 l0_3 l0_4 a0_5 a0_6 = some r) :
  Calls Try.prog 74 #[.agg #[.slice A0_0 l0_0.length c0_0, .int .i64 a0_1, .slice A0_2 l0_2.length c0_2, .slice A0_3 l0_3.length c0_3, .slice A0_4 l0_4.length c0_4, .int .i64 a0_5, .int .i64 a0_6]] w fun e w' => e = .returned (.int .i64 r) ∧ Below w.heap.size w w' := by
 have hu28 := Try.underlying28
 have HR0_0 := Aside0.mk hr0_0
 have HC0_0 := Aside0.mk hc0_0
 clear hr0_0 hc0_0
 have HR0_2 := Aside0.mk hr0_2
 have HC0_2 := Aside0.mk hc0_2
 clear hr0_2 hc0_2
 have HR0_3 := Aside0.mk hr0_3
 have HC0_3 := Aside0.mk hc0_3
 clear hr0_3 hc0_3
 have HR0_4 := Aside0.mk hr0_4
 have HC0_4 := Aside0.mk hc0_4
 clear hr0_4 hc0_4
 have HB := Aside0.mk (Below.refl w.heap.size w)
 have H : (if (l0_3.length : Int) > 0 then (if 0 ≤ (wrap64 ((l0_3.length : Int) - 1)) then (if (wrap64 ((l0_3.length : Int) - 1)) < (l0_3.length : Int) then (some ((rd_T68 l0_3 (wrap64 ((l0_3.length : Int) - 1))).f1)) else (none)) else (none)) else (some a0_6)) = some r := h
 clear h
 by_cases c2 : (l0_3.length : Int) > 0
 ·rw [if_pos c2] at H
  have c2b0 : decide (0 < (l0_3.length : Int)) = true := decide_eq_true c2
  have c2b1 : decide (0 < l0_3.length) = true := decide_eq_true (by omega)
  clear c2
  obtain ⟨ji3, hji3⟩ : ∃ j_ : Int, (wrap64 ((l0_3.length : Int) - 1)) = j_ := ⟨_, rfl⟩
  replace H : (if 0 ≤ (ji3) then (if (ji3) < (l0_3.length : Int) then (some ((rd_T68 l0_3 (ji3)).f1)) else (none)) else (none)) = some r := by first | (rw [hji3] at H; exact H) | (simp only [hji3] at H ⊢; exact H)
  have hji3w : (IntKind.i64.wrap ((l0_3.length : Int) - 1)) = ji3 := (i64_w _).trans hji3
  by_cases c4 : 0 ≤ (ji3)
  ·rw [if_pos c4] at H
   have c4b0 : decide (0 ≤ (ji3)) = true := decide_eq_true c4
   clear c4
   by_cases c5 : (ji3) < (l0_3.length : Int)
   ·rw [if_pos c5] at H
    have c5b0 : decide ((ji3) < (l0_3.length : Int)) = true := decide_eq_true c5
    clear c5
    obtain rfl := Option.some.inj H
    go_enter Try.func74, Try.ntmps74
    go_wp2_with (first | ((with_reducible refine gate_dst (N := 1) rfl ?_); refine box_event ?hg (N := 1) ?hd (cs := #[.slice A0_0 l0_0.length c0_0, .int .i64 a0_1, .slice A0_2 l0_2.length c0_2, .slice A0_3 l0_3.length c0_3, .slice A0_4 l0_4.length c0_4, .int .i64 a0_5, .int .i64 a0_6]) (t := 28) ?hr ?_; (case hd => rfl); (case hg => rfl); (case hr => first | (go_simp; done) | (go_simp; rfl)); intro gb101 hg w6 hbox hb; have n0_ := Aside0.mk (below_step (by repeat (first | (with_reducible first | exact HB.out | apply below_alloc | apply pw_below_drewN | apply below_drew1) | exact HB.out)) hb); have n1_ := Aside0.mk (hbox); have n2_ := Aside0.mk ((by rw [hg]; exact (below_size (by repeat (first | (with_reducible first | exact HB.out | apply below_alloc | apply pw_below_drewN | apply below_drew1) | exact HB.out))) : w.heap.size ≤ gb101)); have n3_ := Aside0.mk ((by rw [hg]; exact (below_size (by repeat (first | (with_reducible first | exact HB.out | apply below_alloc | apply pw_below_drewN | apply below_drew1) | exact HB.out))) : w.heap.size ≤ gb101)); clear HB; have HB := n0_; have BK101 := n1_; have GW101 := n2_; have GE101 := n3_; clear n0_ n1_ n2_ n3_; clear hb hbox hg; have hcz7_0 : w6.cell? ⟨gb101, 0, none⟩ = some (.slice A0_0 l0_0.length c0_0) := (blk_cell BK101.out 0).trans rfl; have hcz7_1 : w6.cell? ⟨gb101, 1, none⟩ = some (.int .i64 a0_1) := (blk_cell BK101.out 1).trans rfl; have hcz7_2 : w6.cell? ⟨gb101, 2, none⟩ = some (.slice A0_2 l0_2.length c0_2) := (blk_cell BK101.out 2).trans rfl; have hcz7_3 : w6.cell? ⟨gb101, 3, none⟩ = some (.slice A0_3 l0_3.length c0_3) := (blk_cell BK101.out 3).trans rfl; have hcz7_4 : w6.cell? ⟨gb101, 4, none⟩ = some (.slice A0_4 l0_4.length c0_4) := (blk_cell BK101.out 4).trans rfl; have hcz7_5 : w6.cell? ⟨gb101, 5, none⟩ = some (.int .i64 a0_5) := (blk_cell BK101.out 5).trans rfl; have hcz7_6 : w6.cell? ⟨gb101, 6, none⟩ = some (.int .i64 a0_6) := (blk_cell BK101.out 6).trans rfl; have hfz7_0 := blk_frozen BK101.out 0; have hfz7_1 := blk_frozen BK101.out 1; have hfz7_2 := blk_frozen BK101.out 2; have hfz7_3 := blk_frozen BK101.out 3; have hfz7_4 := blk_frozen BK101.out 4; have hfz7_5 := blk_frozen BK101.out 5; have hfz7_6 := blk_frozen BK101.out 6; have p102 : 0 ≤ ((ji3) : Int) := of_decide_eq_true (by first | (with_reducible assumption) | assumption); have q102 : (ji3) < (l0_3.length : Int) := of_decide_eq_true (by first | (with_reducible assumption) | assumption); obtain ⟨ad102, A102_2, c102_2, e102, hx102_0, hx102_1, hx102_2, hl102_2, hi102_2⟩ := at_T68 HR0_3.out (ji3) p102 q102; cases e102; replace hx102_0 := (HB.out.cell (World.block_lt_of_cell? w _ hx102_0)).trans hx102_0; replace hx102_1 := (HB.out.cell (World.block_lt_of_cell? w _ hx102_1)).trans hx102_1; replace hx102_2 := (HB.out.cell (World.block_lt_of_cell? w _ hx102_2)).trans hx102_2; have HR102_2 := Aside0.mk hi102_2; have HC102_2 := Aside0.mk hl102_2; clear hi102_2 hl102_2; replace p102 := eq_true p102; replace q102 := eq_true q102))
    go_ret
    exact ⟨by first | rfl | (simp [errW_none, errW_some] <;> rfl) | (simp only [← hji3]; first | rfl | (simp [errW_none, errW_some] <;> rfl)) | (simp [*, errW_none, errW_some] <;> rfl), by repeat (first | (with_reducible first | exact HB.out | apply below_alloc | apply pw_below_drewN | apply below_drew1 | refine below_set ?_ GE101.out) | exact HB.out)⟩
   ·rw [if_neg c5] at H
    exact absurd H (by simp)
  ·rw [if_neg c4] at H
   exact absurd H (by simp)
 ·rw [if_neg c2] at H
  have c2b0 : decide (0 < (l0_3.length : Int)) = false := decide_eq_false c2
  have c2b1 : decide (0 < l0_3.length) = false := decide_eq_false (by omega)
  clear c2
  obtain rfl := Option.some.inj H
  go_enter Try.func74, Try.ntmps74
  go_wp2_with (first | ((with_reducible refine gate_dst (N := 1) rfl ?_); refine box_event ?hg (N := 1) ?hd (cs := #[.slice A0_0 l0_0.length c0_0, .int .i64 a0_1, .slice A0_2 l0_2.length c0_2, .slice A0_3 l0_3.length c0_3, .slice A0_4 l0_4.length c0_4, .int .i64 a0_5, .int .i64 a0_6]) (t := 28) ?hr ?_; (case hd => rfl); (case hg => rfl); (case hr => first | (go_simp; done) | (go_simp; rfl)); intro gb101 hg w8 hbox hb; have n0_ := Aside0.mk (below_step (by repeat (first | (with_reducible first | exact HB.out | apply below_alloc | apply pw_below_drewN | apply below_drew1) | exact HB.out)) hb); have n1_ := Aside0.mk (hbox); have n2_ := Aside0.mk ((by rw [hg]; exact (below_size (by repeat (first | (with_reducible first | exact HB.out | apply below_alloc | apply pw_below_drewN | apply below_drew1) | exact HB.out))) : w.heap.size ≤ gb101)); have n3_ := Aside0.mk ((by rw [hg]; exact (below_size (by repeat (first | (with_reducible first | exact HB.out | apply below_alloc | apply pw_below_drewN | apply below_drew1) | exact HB.out))) : w.heap.size ≤ gb101)); clear HB; have HB := n0_; have BK101 := n1_; have GW101 := n2_; have GE101 := n3_; clear n0_ n1_ n2_ n3_; clear hb hbox hg; have hcz9_0 : w8.cell? ⟨gb101, 0, none⟩ = some (.slice A0_0 l0_0.length c0_0) := (blk_cell BK101.out 0).trans rfl; have hcz9_1 : w8.cell? ⟨gb101, 1, none⟩ = some (.int .i64 a0_1) := (blk_cell BK101.out 1).trans rfl; have hcz9_2 : w8.cell? ⟨gb101, 2, none⟩ = some (.slice A0_2 l0_2.length c0_2) := (blk_cell BK101.out 2).trans rfl; have hcz9_3 : w8.cell? ⟨gb101, 3, none⟩ = some (.slice A0_3 l0_3.length c0_3) := (blk_cell BK101.out 3).trans rfl; have hcz9_4 : w8.cell? ⟨gb101, 4, none⟩ = some (.slice A0_4 l0_4.length c0_4) := (blk_cell BK101.out 4).trans rfl; have hcz9_5 : w8.cell? ⟨gb101, 5, none⟩ = some (.int .i64 a0_5) := (blk_cell BK101.out 5).trans rfl; have hcz9_6 : w8.cell? ⟨gb101, 6, none⟩ = some (.int .i64 a0_6) := (blk_cell BK101.out 6).trans rfl; have hfz9_0 := blk_frozen BK101.out 0; have hfz9_1 := blk_frozen BK101.out 1; have hfz9_2 := blk_frozen BK101.out 2; have hfz9_3 := blk_frozen BK101.out 3; have hfz9_4 := blk_frozen BK101.out 4; have hfz9_5 := blk_frozen BK101.out 5; have hfz9_6 := blk_frozen BK101.out 6))
  go_ret
  exact ⟨by first | rfl | (simp [errW_none, errW_some] <;> rfl) | (simp [*, errW_none, errW_some] <;> rfl), by repeat (first | (with_reducible first | exact HB.out | apply below_alloc | apply pw_below_drewN | apply below_drew1 | refine below_set ?_ GE101.out) | exact HB.out)⟩

end Go.Proofs.Ytjndadjhhknggaa.Q
end
section
/- The specification's step: its frame, its crash. -/
namespace Go.Proofs.Ytjndadjhhknggaa.Q
open Go.RowKit Go.Proofs.YtjndadjhhknggaaW.PrintWords Go.Proofs.YtjndadjhhknggaaW.PrintLast
set_option linter.unusedVariables false
set_option linter.unusedSimpArgs false

/-- What a step spares, where it makes its own struct. -/
structure Spare0 (w w' : World) : Prop where
 size : w.heap.size ≤ w'.heap.size
 keep : ∀ (k : Nat) (q : TypeId) (cells : Array Value), w.heap[k]? = some (.cells cells q (0, 0)) → q ≠ 3 → q ≠ 68 → w'.heap[k]? = w.heap[k]?
theorem Spare0.of_below {w w1 : World} (h : Below w.heap.size w w1) : Spare0 w w1 := ⟨h.size, fun i q cells hc _ _ => h.block i (blk_lt hc)⟩
theorem Spare0.trans {w w1 w2 : World} (h : Spare0 w w1) (k : Spare0 w1 w2) : Spare0 w w2 :=
 ⟨Nat.le_trans h.size k.size, fun i q cells hc h1 h2 => (k.keep i q cells ((h.keep i q cells hc h1 h2).trans hc) h1 h2).trans (h.keep i q cells hc h1 h2)⟩
/-- The result's own block is filled. -/
theorem fin7 {W w0 : World} {base g : Nat} {f : Nat → Nat} {s : SK} {v0 v2 v3 v4 u0 u1 u2 u3 u4 u5 u6 : Value} (hz : W.heap[g]? = some (.cells #[u0, u1, u2, u3, u4, u5, u6] 28 (0, 0))) (hr : SinkRows W base f s v0 v2 v3 v4) (hB : Below w0.heap.size w0 W) (hg : w0.heap.size ≤ g) (x0 x1 x2 x3 x4 x5 x6 : Value) :
  (((((((W.setCell ⟨g, 0, none⟩ x0).setCell ⟨g, 1, none⟩ x1).setCell ⟨g, 2, none⟩ x2).setCell ⟨g, 3, none⟩ x3).setCell ⟨g, 4, none⟩ x4).setCell ⟨g, 5, none⟩ x5).setCell ⟨g, 6, none⟩ x6).heap[g]? = some (.cells #[x0, x1, x2, x3, x4, x5, x6] 28 (0, 0)) ∧ SinkRows (((((((W.setCell ⟨g, 0, none⟩ x0).setCell ⟨g, 1, none⟩ x1).setCell ⟨g, 2, none⟩ x2).setCell ⟨g, 3, none⟩ x3).setCell ⟨g, 4, none⟩ x4).setCell ⟨g, 5, none⟩ x5).setCell ⟨g, 6, none⟩ x6) base f s v0 v2 v3 v4 ∧ Below w0.heap.size w0 (((((((W.setCell ⟨g, 0, none⟩ x0).setCell ⟨g, 1, none⟩ x1).setCell ⟨g, 2, none⟩ x2).setCell ⟨g, 3, none⟩ x3).setCell ⟨g, 4, none⟩ x4).setCell ⟨g, 5, none⟩ x5).setCell ⟨g, 6, none⟩ x6) ∧ Spare g W (((((((W.setCell ⟨g, 0, none⟩ x0).setCell ⟨g, 1, none⟩ x1).setCell ⟨g, 2, none⟩ x2).setCell ⟨g, 3, none⟩ x3).setCell ⟨g, 4, none⟩ x4).setCell ⟨g, 5, none⟩ x5).setCell ⟨g, 6, none⟩ x6) := by
 have a1 := blk_put (cs' := #[x0, u1, u2, u3, u4, u5, u6]) hz 0 x0 rfl
 have a2 := blk_put (cs' := #[x0, x1, u2, u3, u4, u5, u6]) a1 1 x1 rfl
 have a3 := blk_put (cs' := #[x0, x1, x2, u3, u4, u5, u6]) a2 2 x2 rfl
 have a4 := blk_put (cs' := #[x0, x1, x2, x3, u4, u5, u6]) a3 3 x3 rfl
 have a5 := blk_put (cs' := #[x0, x1, x2, x3, x4, u5, u6]) a4 4 x4 rfl
 have a6 := blk_put (cs' := #[x0, x1, x2, x3, x4, x5, u6]) a5 5 x5 rfl
 refine ⟨blk_put a6 6 x6 rfl, ((((((hr.set hz 0 x0).set a1 1 x1).set a2 2 x2).set a3 3 x3).set a4 4 x4).set a5 5 x5).set a6 6 x6, ?_, ?_⟩
 ·exact ((((((hB.setCell (p := ⟨g, 0, none⟩) hg x0).setCell (p := ⟨g, 1, none⟩) hg x1).setCell (p := ⟨g, 2, none⟩) hg x2).setCell (p := ⟨g, 3, none⟩) hg x3).setCell (p := ⟨g, 4, none⟩) hg x4).setCell (p := ⟨g, 5, none⟩) hg x5).setCell (p := ⟨g, 6, none⟩) hg x6
 ·exact ((((((Spare.set g _ 0 x0).trans (Spare.set g _ 1 x1)).trans (Spare.set g _ 2 x2)).trans (Spare.set g _ 3 x3)).trans (Spare.set g _ 4 x4)).trans (Spare.set g _ 5 x5)).trans (Spare.set g _ 6 x6)
/-- What a step, as a function, returns and leaves. -/
def SStepRet (w0 w w' : World) (e : Ending) (at_ : Int) (last upto : Int) (v0 v2 v3 v4 : Value) : Option SK → Prop
 | some s' => ∃ f' u0 u2 u3 u4, e = .returned (.tuple #[.agg #[u0, .int .i64 s'.at_, u2, u3, u4, .int .i64 s'.last, .int .i64 s'.upto], .bool true]) ∧ SinkRows w' w0.heap.size f' s' u0 u2 u3 u4 ∧ Below w0.heap.size w0 w' ∧ Spare0 w w'
 | none => e = .returned (.tuple #[.agg #[v0, .int .i64 at_, v2, v3, v4, .int .i64 last, .int .i64 upto], .bool false]) ∧ Below w.heap.size w w'
theorem from_f (s : SK) (hl : s.stored.length ≤ 1000) : spec_l16From.f s.src s.at_ s.pend s.stored s.out s.last s.upto = some (fromK s) := by
 unfold spec_l16From.f fromK
 by_cases h : s.stored.length = 0
 ·rw [if_neg (by omega), if_pos h]
 ·rw [if_pos (by omega)]
  rw [wrap_id _ (by omega) (by omega), if_pos (by omega), if_pos (by omega), if_neg h]
  have e : rd_T68 s.stored ((s.stored.length : Int) - 1) = s.stored.getD (s.stored.length - 1) z68 := by
   show s.stored.getD ((s.stored.length : Int) - 1).toNat z68 = _
   rw [show ((s.stored.length : Int) - 1).toNat = s.stored.length - 1 from by omega]
  rw [e]
theorem R_slice3 {α : Type} {d : Kd α} {e : Nat} {w : World} {base : Nat} {ok : Nat → Prop} {v : Value} {xs : List α} (h : d.R e w base ok v xs) : ∃ A n c, v = .slice A n c := by
 obtain ⟨A, c, hv⟩ := Kd.R_slice h
 exact ⟨A, _, c, hv⟩
theorem Q_slice3 {α : Type} {d : Kd α} {e : Nat} {w : World} {base : Nat} {ok : Nat → Prop} {v : Value} {xs : List α} (h : d.Q e w base ok v xs) : ∃ A n c, v = .slice A n c := by
 obtain ⟨A, c, hv, _⟩ := Kd.Q_slice h
 exact ⟨A, _, c, hv⟩
theorem Spare0.andThen {g : Nat} {w w1 w2 : World} (h : Spare0 w w1) (k : Spare g w1 w2) (hg : w.heap.size ≤ g) : Spare0 w w2 :=
 ⟨Nat.le_trans h.size k.size, fun i q cells hc h1 h2 => by
  have hlt := blk_lt hc
  have e := h.keep i q cells hc h1 h2
  exact (k.keep i q cells (e.trans hc) h1 h2 (by omega)).trans e⟩
/-- The struct that came in, boxed; the result's own block. -/
theorem open28 (w : World) (s : SK) (v0 v2 v3 v4 : Value) :
  SinkBlk w.heap.size ((w.alloc (.cells #[v0, .int .i64 s.at_, v2, v3, v4, .int .i64 s.last, .int .i64 s.upto] 28)).alloc (.cells #[.slice none 0 0, .int .i64 0, .slice none 0 0, .slice none 0 0, .slice none 0 0, .int .i64 0, .int .i64 0] 28)) s v0 v2 v3 v4 ∧ ((w.alloc (.cells #[v0, .int .i64 s.at_, v2, v3, v4, .int .i64 s.last, .int .i64 s.upto] 28)).alloc (.cells #[.slice none 0 0, .int .i64 0, .slice none 0 0, .slice none 0 0, .slice none 0 0, .int .i64 0, .int .i64 0] 28)).heap[w.heap.size + 1]? = some (.cells #[.slice none 0 0, .int .i64 0, .slice none 0 0, .slice none 0 0, .slice none 0 0, .int .i64 0, .int .i64 0] 28 (0, 0)) ∧
   Below w.heap.size w ((w.alloc (.cells #[v0, .int .i64 s.at_, v2, v3, v4, .int .i64 s.last, .int .i64 s.upto] 28)).alloc (.cells #[.slice none 0 0, .int .i64 0, .slice none 0 0, .slice none 0 0, .slice none 0 0, .int .i64 0, .int .i64 0] 28)) := by
 have s1 : (w.alloc (.cells #[v0, .int .i64 s.at_, v2, v3, v4, .int .i64 s.last, .int .i64 s.upto] 28)).heap.size = w.heap.size + 1 := by simp
 refine ⟨blk_alloc (blk_new w _) _, ?_, below_alloc (below_alloc (Below.refl _ w) _) _⟩
 rw [← s1]
 exact blk_new _ _
set_option maxHeartbeats 4000000 in
theorem specCrash_calls (s : SK) (f : Nat → Nat) (A0 A2 A3 A4 : Option Addr) (c0 c2 c3 c4 : Nat) (base : Nat) (w : World) (hr : SinkRows w base f s (.slice A0 s.src.length c0) (.slice A2 s.pend.length c2) (.slice A3 s.stored.length c3) (.slice A4 s.out.length c4)) (hl : s.stored.length ≤ 1000) :
  Calls Try.prog 64 #[.agg #[.slice A0 s.src.length c0, .int .i64 s.at_, .slice A2 s.pend.length c2, .slice A3 s.stored.length c3, .slice A4 s.out.length c4, .int .i64 s.last, .int .i64 s.upto]] w fun e w' => e = .returned (.agg #[.slice A0 s.src.length c0, .int .i64 (fromK s), .slice none 0 0, .slice A3 s.stored.length c3, .slice A4 s.out.length c4, .int .i64 s.last, .int .i64 s.upto]) ∧ SinkRows w' base f (crashK s) (.slice A0 s.src.length c0) (.slice none 0 0) (.slice A3 s.stored.length c3) (.slice A4 s.out.length c4) ∧ Below w.heap.size w w' := by
 obtain ⟨hg, hz, hb⟩ := open28 w s (.slice A0 s.src.length c0) (.slice A2 s.pend.length c2) (.slice A3 s.stored.length c3) (.slice A4 s.out.length c4)
 have HR := Aside0.mk (hr.below hb)
 have HB := Aside0.mk hb
 have hu28 := Try.underlying28
 have hc3 := (Kd.Q_reads' hr.r3).2.1
 have HC := Aside0.mk (fun (W : World) (h : SinkRows W base f s (.slice A0 s.src.length c0) (.slice A2 s.pend.length c2) (.slice A3 s.stored.length c3) (.slice A4 s.out.length c4)) => spec_l16From.calls A0 c0 s.src s.at_ A2 c2 s.pend A3 c3 s.stored A4 c4 s.out s.last s.upto _ W (Kd.R_reads' h.r0).2.2 (Kd.R_reads' h.r0).2.1 (Kd.R_reads' h.r2).2.2 (Kd.R_reads' h.r2).2.1 (Kd.Q_reads' h.r3).2.2 hc3 (Kd.R_reads' h.r4).2.2 (Kd.R_reads' h.r4).2.1 (from_f s hl))
 clear hr hl hb hc3
 go_enter Try.func64, Try.ntmps64
 go_upto_region 1 with fail
 generalize hgw : w.heap.size = g at hg hz HB ⊢
 generalize (w.alloc (.cells #[.slice A0 s.src.length c0, .int .i64 s.at_, .slice A2 s.pend.length c2, .slice A3 s.stored.length c3, .slice A4 s.out.length c4, .int .i64 s.last, .int .i64 s.upto] 28)).alloc (.cells #[.slice none 0 0, .int .i64 0, .slice none 0 0, .slice none 0 0, .slice none 0 0, .int .i64 0, .int .i64 0] 28) = W at hg hz HR HB ⊢
 have HG := Aside0.mk hg
 have HZ := Aside0.mk hz
 have HGW := Aside0.mk hgw
 obtain ⟨g0, g1, g2, g3, g4, g5, g6⟩ := cells7_ hg
 clear hg hz hgw
 go_wp2_with fail
 go_at_call 74; refine (HC.out _ HR.out).mono ?_; rintro e w1 ⟨rfl, hb1⟩
 have HG1 := Aside0.mk (HG.out.below hb1)
 have HZ1 := Aside0.mk (blk_below HZ.out hb1)
 have HR1 := Aside0.mk (HR.out.below hb1)
 have HB1 := Aside0.mk (below_then HB.out (by have := HB.out.size; have := HGW.out; omega) hb1)
 clear hb1 g0 g1 g2 g3 g4 g5 g6 HC HG HZ HR HB
 obtain ⟨g0, g1, g2, g3, g4, g5, g6⟩ := cells7_ HG1.out
 obtain ⟨z0, z1, z2, z3, z4, z5, z6⟩ := cells7_ HZ1.out
 have f1 := blk_frozen HG1.out 1
 have f2 := blk_frozen HG1.out 2
 have e0 := blk_frozen HZ1.out 0
 have e1 := blk_frozen HZ1.out 1
 have e2 := blk_frozen HZ1.out 2
 have e3 := blk_frozen HZ1.out 3
 have e4 := blk_frozen HZ1.out 4
 have e5 := blk_frozen HZ1.out 5
 have e6 := blk_frozen HZ1.out 6
 go_wp2
 clear g0 g1 g2 g3 g4 g5 g6 z0 z1 z2 z3 z4 z5 z6 f1 f2 e0 e1 e2 e3 e4 e5 e6
 have hG2 := HG1.out.set1 (fromK s)
 have hR2 := (HR1.out.set HG1.out 1 (.int .i64 (fromK s))).nums (fromK s) s.last s.upto
 have hG3 := hG2.set2 (.slice none 0 0)
 have hR3 := (hR2.set hG2 2 (.slice none 0 0)).noPend
 have hgg : g + 1 ≠ g := by omega
 have hZ3 := blk_far (blk_far HZ1.out (p := ⟨g, 1, none⟩) hgg (.int .i64 (fromK s))) (p := ⟨g, 2, none⟩) hgg (.slice none 0 0)
 have hw := HGW.out
 subst hw
 have hB3 := (HB1.out.setCell (p := ⟨w.heap.size, 1, none⟩) (Nat.le_refl _) (.int .i64 (fromK s))).setCell (p := ⟨w.heap.size, 2, none⟩) (Nat.le_refl _) (.slice none 0 0)
 obtain ⟨q1, q2, q3, -⟩ := fin7 hZ3 hR3 hB3 (Nat.le_succ _) (.slice A0 s.src.length c0) (.int .i64 (fromK s)) (.slice none 0 0) (.slice A3 s.stored.length c3) (.slice A4 s.out.length c4) (.int .i64 s.last) (.int .i64 s.upto)
 refine bodyPost_ret (results_cell_row rfl _ _ (w.heap.size + 1) 28 _ (0, 0) _ rfl q1 Try.underlying28 rfl (by kernel_rfl)) rfl ?_
 exact ⟨rfl, q2, q3⟩
end Go.Proofs.Ytjndadjhhknggaa.Q
end
section
/- The specification's step that reads. -/
namespace Go.Proofs.Ytjndadjhhknggaa.Q
open Go.RowKit Go.Proofs.YtjndadjhhknggaaW.PrintWords Go.Proofs.YtjndadjhhknggaaW.PrintLast
set_option linter.unusedVariables false
set_option linter.unusedSimpArgs false
def T43_6 : Bool × List (List Nat × List Nat) := (true, [([], []), ([0], [0]), ([], []), ([2], [2]), ([], []), ([4], [4]), ([3, 5], [3, 5]), ([6], [6]), ([7], [7]), ([1, 8], [1, 8]), ([0, 1, 2, 3, 4, 5, 6, 7, 8, 9], []), ([10, 9, 9, 0, 1, 2, 3, 4, 5, 6, 7, 8, 9], [9, 10])])
def B43_6 : List Nat := [0, 1, 0, 4, 0, 16, 60, 124, 252, 511, 1023, 2047]
theorem tab43_6 : rtab .any (opsOf Try.f43 6) = T43_6 := by kernel_rfl
theorem bits43_6 : waitsOk T43_6.2 B43_6 = true := by kernel_rfl
set_option maxHeartbeats 8000000 in
set_option maxRecDepth 100000 in
theorem sread_calls (s : SK) (f : Nat → Nat) (A0 A2 A3 A4 : Option Addr) (c0 c2 c3 c4 : Nat) (w0 w : World) (hr : SinkRows w w0.heap.size f s (.slice A0 s.src.length c0) (.slice A2 s.pend.length c2) (.slice A3 s.stored.length c3) (.slice A4 s.out.length c4)) (hok : SKOk s) (hB : Below w0.heap.size w0 w) :
  Calls Try.prog 43 #[.agg #[.slice A0 s.src.length c0, .int .i64 s.at_, .slice A2 s.pend.length c2, .slice A3 s.stored.length c3, .slice A4 s.out.length c4, .int .i64 s.last, .int .i64 s.upto], .int .i64 1] w fun e w' => SStepRet w0 w w' e s.at_ s.last s.upto (.slice A0 s.src.length c0) (.slice A2 s.pend.length c2) (.slice A3 s.stored.length c3) (.slice A4 s.out.length c4) (stepK s 1) := by
 obtain ⟨hg, hz, hb⟩ := open28 w s (.slice A0 s.src.length c0) (.slice A2 s.pend.length c2) (.slice A3 s.stored.length c3) (.slice A4 s.out.length c4)
 have HR := Aside0.mk (hr.below hb)
 have HBW := Aside0.mk hb
 have HB := Aside0.mk (below_then hB hB.size hb)
 have HSZ := Aside0.mk hB.size
 have HOK := Aside0.mk hok
 have hu28 := Try.underlying28
 have hu68 := Try.underlying68
 by_cases hat : s.at_ = s.src.length
 ·have hst : stepK s 1 = none := by unfold stepK; rw [if_pos rfl]; rw [if_pos hat]
  rw [hst]
  have hat1 : (s.at_ == (s.src.length : Int)) = true := by simp [hat]
  clear hr hb hok hB hst hat
  go_enter Try.func43, Try.ntmps43
  go_upto_region 1 with fail
  generalize hgw : w.heap.size = g at hg hz HBW HSZ ⊢
  generalize (w.alloc (.cells #[.slice A0 s.src.length c0, .int .i64 s.at_, .slice A2 s.pend.length c2, .slice A3 s.stored.length c3, .slice A4 s.out.length c4, .int .i64 s.last, .int .i64 s.upto] 28)).alloc (.cells #[.slice none 0 0, .int .i64 0, .slice none 0 0, .slice none 0 0, .slice none 0 0, .int .i64 0, .int .i64 0] 28) = W at hg hz HR HB HBW  ⊢
  have HG := Aside0.mk hg
  have HZ := Aside0.mk hz
  have HGW := Aside0.mk hgw
  have HSP := Aside0.mk (show Spare0 w W from Spare0.of_below (hgw ▸ HBW.out))
  have hg0 : w0.heap.size ≤ g := HSZ.out
  have hg1 : w0.heap.size ≤ g + 1 := Nat.le_succ_of_le hg0
  have hgg : g + 1 ≠ g := by omega
  have hgw1 : w.heap.size ≤ g := by omega
  clear hz hgw
  clear hg
  obtain ⟨g0, g1, g2, g3, g4, g5, g6⟩ := cells7_ HG.out
  obtain ⟨z0, z1, z2, z3, z4, z5, z6⟩ := cells7_ HZ.out
  have e0 := blk_frozen HZ.out 0
  have e1 := blk_frozen HZ.out 1
  have e2 := blk_frozen HZ.out 2
  have e3 := blk_frozen HZ.out 3
  have e4 := blk_frozen HZ.out 4
  have e5 := blk_frozen HZ.out 5
  have e6 := blk_frozen HZ.out 6
  go_wp2
  clear g0 g1 g2 g3 g4 g5 g6 z0 z1 z2 z3 z4 z5 z6 e0 e1 e2 e3 e4 e5 e6
  obtain ⟨q1, -, q3, -⟩ := fin7 (w0 := w) HZ.out HR.out (by have h_ := HBW.out; rw [← HGW.out] at h_; exact h_) (by omega) (.slice A0 s.src.length c0) (.int .i64 s.at_) (.slice A2 s.pend.length c2) (.slice A3 s.stored.length c3) (.slice A4 s.out.length c4) (.int .i64 s.last) (.int .i64 s.upto)
  refine bodyPost_ret (results_ct rfl _ _ (g + 1) 28 _ (0, 0) _ rfl q1 Try.underlying28 rfl (by kernel_rfl)) rfl ?_
  exact ⟨rfl, q3⟩
 ·have hst : stepK s 1 = some { s with pend := s.pend ++ [rd s.src s.at_], at_ := s.at_ + 1 } := by unfold stepK; rw [if_pos rfl]; rw [if_neg hat]
  rw [hst]
  have hat1 : (s.at_ == (s.src.length : Int)) = false := by simp [hat]
  have ha0 := hok.at0
  have ha1 : s.at_ < (s.src.length : Int) := by have := hok.at1; omega
  have ha2 : s.at_ ≤ 1000 := by have := hok.at1; have := hok.src; omega
  obtain ⟨ad, eA⟩ := hr.src_some (by omega)
  subst eA
  have HA := Aside0.mk hat
  clear hr hb hok hB hst hat
  go_enter Try.func43, Try.ntmps43
  go_upto_region 1 with fail
  generalize hgw : w.heap.size = g at hg hz HBW HSZ ⊢
  generalize (w.alloc (.cells #[.slice (some ad) s.src.length c0, .int .i64 s.at_, .slice A2 s.pend.length c2, .slice A3 s.stored.length c3, .slice A4 s.out.length c4, .int .i64 s.last, .int .i64 s.upto] 28)).alloc (.cells #[.slice none 0 0, .int .i64 0, .slice none 0 0, .slice none 0 0, .slice none 0 0, .int .i64 0, .int .i64 0] 28) = W at hg hz HR HB HBW  ⊢
  have HG := Aside0.mk hg
  have HZ := Aside0.mk hz
  have HGW := Aside0.mk hgw
  have HSP := Aside0.mk (show Spare0 w W from Spare0.of_below (hgw ▸ HBW.out))
  have hg0 : w0.heap.size ≤ g := HSZ.out
  have hg1 : w0.heap.size ≤ g + 1 := Nat.le_succ_of_le hg0
  have hgg : g + 1 ≠ g := by omega
  have hgw1 : w.heap.size ≤ g := by omega
  clear hz hgw
  obtain ⟨g0, g1, g2, g3, g4, g5, g6⟩ := cells7_ hg
  clear hg
  go_upto_region 6 with fail
  clear g0 g1 g2 g3 g4 g5 g6
  have hdr_ : Below W.heap.size W W.drew := (Below.refl _ _).drew
  have HG := Aside0.mk (HG.out.below hdr_)
  have HZ := Aside0.mk (blk_below HZ.out hdr_)
  have HR := Aside0.mk (HR.out.below hdr_)
  have HB := Aside0.mk HB.out.drew
  have HSP := Aside0.mk (HSP.out.trans (Spare0.of_below hdr_))
  clear hdr_
  refine mS [11] (S := fun w' => w'.cell? ⟨g, 0, none⟩ = some (.slice (some ad) s.src.length c0) ∧ w'.cell? ⟨g, 1, none⟩ = some (.int .i64 s.at_) ∧ w'.cell? ⟨g, 2, none⟩ = some (.slice A2 s.pend.length c2) ∧ w'.cell? (ad.add s.at_.toNat) = some (.int .i64 (rd s.src s.at_))) tab43_6 bits43_6 (by kernel_rfl) rfl ⟨(cells7_ HG.out).1, (cells7_ HG.out).2.1, (cells7_ HG.out).2.2.1, HR.out.src_at _ ha0 ha1⟩ (fun hS_ HT_ HW_ => ?_)
  generalize W.drew = w2 at HG HZ HR HB HSP hS_ ⊢
  refine mL 0 0 1 (N := some 21) (v := ?_) (a' := ?_) HT_ HW_ rfl rfl (by kernel_rfl) (fun _ _ _ h => h) hS_ (by rfl) ?_ ?_ ?_; rotate_left 2; (rintro w' ⟨s0, s1, s2, s3⟩; go_simp; with_reducible rfl); (simp only [Act.put, sT, s0, s1, i64_w, i32_w]; rfl)
  refine mL 1 1 3 (N := some 22) (v := ?_) (a' := ?_) HT_ HW_ rfl rfl (by kernel_rfl) (fun _ _ _ h => h) hS_ (by rfl) ?_ ?_ ?_; rotate_left 2; (rintro w' ⟨s0, s1, s2, s3⟩; go_simp; with_reducible rfl); (simp only [Act.put, sT, s0, s1, i64_w, i32_w]; rfl)
  refine mL 2 3 7 (N := some 23) (v := ?_) (a' := ?_) HT_ HW_ rfl rfl (by kernel_rfl) (fun _ _ _ h => h) hS_ (by rfl) ?_ ?_ ?_; rotate_left 2; (rintro w' ⟨s0, s1, s2, s3⟩; go_simp; with_reducible rfl); (simp only [Act.put, sT, s0, s1, i64_w, i32_w]; rfl)
  refine mL 3 7 15 (N := some 24) (v := ?_) (a' := ?_) HT_ HW_ rfl rfl (by kernel_rfl) (fun _ _ _ h => h) hS_ (by rfl) ?_ ?_ ?_; rotate_left 2; (rintro w' ⟨s0, s1, s2, s3⟩; go_simp; with_reducible rfl); (simp only [Act.put, sT, s0, s1, i64_w, i32_w]; rfl)
  refine mL 4 15 31 (N := some 25) (v := ?_) (a' := ?_) HT_ HW_ rfl rfl (by kernel_rfl) (fun _ _ _ h => h) hS_ (by rfl) ?_ ?_ ?_; rotate_left 2; (rintro w' ⟨s0, s1, s2, s3⟩; go_simp; with_reducible rfl); (simp only [Act.put, sT, s0, s1, i64_w, i32_w]; rfl)
  refine mL 5 31 63 (N := some 26) (v := ?_) (a' := ?_) HT_ HW_ rfl rfl (by kernel_rfl) (fun _ _ _ h => h) hS_ (by rfl) ?_ ?_ ?_; rotate_left 2; (rintro w' ⟨s0, s1, s2, s3⟩; go_simp; with_reducible rfl); (simp only [Act.put, sT, s0, s1, i64_w, i32_w]; rfl)
  refine mL 6 63 127 (N := some 27) (v := ?_) (a' := ?_) HT_ HW_ rfl rfl (by kernel_rfl) (fun _ _ _ h => h) hS_ (by rfl) ?_ ?_ ?_; rotate_left 2; (rintro w' ⟨s0, s1, s2, s3⟩; go_simp; with_reducible rfl); (simp only [Act.put, sT, s0, s1, i64_w, i32_w]; rfl)
  refine mL 7 127 255 (N := some 28) (v := ?_) (a' := ?_) HT_ HW_ rfl rfl (by kernel_rfl) (fun _ _ _ h => h) hS_ (by rfl) ?_ ?_ ?_; rotate_left 2; (rintro w' ⟨s0, s1, s2, s3⟩; go_simp; with_reducible rfl); (simp only [Act.put, sT, s0, s1, i64_w, i32_w]; rfl)
  refine one_ (i := 8) (N := some 29) (lB 12 511) rfl rfl (one_of HT_.out (by kernel_rfl)) (by decide) (fun K hK => ?_)
  refine event_step (w1 := w2.alloc (.cells #[.int .i64 (rd s.src s.at_)] 3)) (v := .slice (some ⟨w2.heap.size, 0, none⟩) 1 1) (by rfl) (by first | (go_simp; done) | (go_simp; rfl)) ?_
  have hl_ : Below w2.heap.size w2 (w2.alloc (.cells #[.int .i64 (rd s.src s.at_)] 3)) := below_alloc (Below.refl _ _) _
  refine hK.out _ _ ⟨(cells7_ (HG.out.below hl_)).1, (cells7_ (HG.out.below hl_)).2.1, (cells7_ (HG.out.below hl_)).2.2.1, (HR.out.below hl_).src_at _ ha0 ha1⟩ (fun hS_ => ?_)
  clear hK K hl_
  refine norm_ (a' := ?_) ?_ ?_
  rotate_left
  (show Act.put _ (some 29) _ = _; simp only [Act.put, sT, s0, s1, i64_w, i32_w]; rfl)
  have HRC := Aside0.mk (HR.out.recol w2.heap.size 2 (Nat.le_refl _)); clear HR
  refine one_ (i := 9) (N := some 30) (lB 12 1023) rfl rfl (one_of HT_.out (by kernel_rfl)) (by decide) (fun K hK => ?_)
  refine Kd.R_append_step (Kd.int .i64) (w0 := w0) w0.heap.size (by rfl) (.tmp 22) (.tmp 29) 23 3 _ 8 rfl Try.underlying23 info3_ rfl (by decide) (by omega) _ s.pend (rd s.src s.at_) [.int .i64 (rd s.src s.at_)] (fun k => recol f w2.heap.size 2 k = 2) (fun _ => False) (by rfl) (by rfl) rfl (fun _ h => h.elim) (fun k hk => recol_ge hk) HRC.out.r2 HB.out HB.out.size (by have := HOK.out.pend; omega) ?_
  intro v5 w5 hr5 hb5 hg5 hat5
  obtain ⟨A5, n5, c5, rfl⟩ := R_slice3 hr5
  have hG5 := HG.out.grown hg5 (R_typed3 HRC.out.r2) (by decide)
  have hR5 := HRC.out.pend hg5 _ hr5
  have hS5 := HSP.out.andThen (g := g) (Spare.grown hg5 (R_typed3 HRC.out.r2) (Or.inl rfl)) hgw1
  have hZ5 := blk_grown HZ.out hg5 (fun e => by obtain ⟨cs, hcs⟩ := R_typed3 HRC.out.r2 _ e.symm; rw [HZ.out] at hcs; injection hcs with hcs; injection hcs with _ hcs; exact absurd hcs (by decide))
  have HG5 := Aside0.mk hG5; have HR5 := Aside0.mk hR5; have HS5 := Aside0.mk hS5; have HB5 := Aside0.mk hb5; have HZ5 := Aside0.mk hZ5
  refine hK.out _ _ ⟨(cells7_ hG5).1, (cells7_ hG5).2.1, (cells7_ hG5).2.2.1, hR5.src_at _ ha0 ha1⟩ (fun hS_ => ?_)
  clear hK K hr5 hb5 hg5 hat5 hG5 hR5 hS5 hZ5
  refine norm_ (a' := ?_) ?_ ?_
  rotate_left
  (show Act.put _ (some 30) _ = _; simp only [Act.put, sT, s0, s1, i64_w, i32_w]; rfl)
  refine mL 10 1023 2047 (N := some 31) (v := ?_) (a' := ?_) HT_ HW_ rfl rfl (by kernel_rfl) (fun _ _ _ h => h) hS_ (by rfl) ?_ ?_ ?_; rotate_left 2; (rintro w' ⟨s0, s1, s2, s3⟩; go_simp; with_reducible rfl); (simp only [Act.put, sT, s0, s1, i64_w, i32_w]; rfl)
  refine last_ (i := 11) (N := none) (lB 12 4095) rfl rfl (one_of HT_.out (by kernel_rfl)) (by decide) (fun K hK => ?_)
  obtain ⟨g0, g1, g2, g3, g4, g5, g6⟩ := cells7_ HG5.out
  have f2 := blk_frozen HG5.out 2
  refine skip_ (w1 := w5.setCell ⟨g, 2, none⟩ (.slice A5 n5 c5)) (by rfl) rfl (by first | (go_simp; done) | (go_simp; rfl)) ?_
  clear g0 g1 g2 g3 g4 g5 g6 f2
  have hG6 := HG5.out.set2 (.slice A5 n5 c5)
  have hR6 := HR5.out.set HG5.out 2 (.slice A5 n5 c5)
  have HS6 := Aside0.mk (HS5.out.andThen (Spare.set g _ 2 (.slice A5 n5 c5)) hgw1)
  have HB6 := Aside0.mk (HB5.out.setCell (p := ⟨g, 2, none⟩) hg0 (.slice A5 n5 c5))
  have HZ6 := Aside0.mk (blk_far HZ5.out (p := ⟨g, 2, none⟩) hgg (.slice A5 n5 c5))
  generalize w5.setCell ⟨g, 2, none⟩ (.slice A5 n5 c5) = w6 at hG6 hR6 HS6 HB6 HZ6 ⊢
  have HG6 := Aside0.mk hG6; have HR6 := Aside0.mk hR6; clear hG6 hR6
  refine hK.out _ _ ?_
  clear hK K
  refine mD HT_ (by kernel_rfl) ?_
  clear hS_
  obtain ⟨g0, g1, g2, g3, g4, g5, g6⟩ := cells7_ HG6.out
  obtain ⟨z0, z1, z2, z3, z4, z5, z6⟩ := cells7_ HZ6.out
  have e0 := blk_frozen HZ6.out 0
  have e1 := blk_frozen HZ6.out 1
  have e2 := blk_frozen HZ6.out 2
  have e3 := blk_frozen HZ6.out 3
  have e4 := blk_frozen HZ6.out 4
  have e5 := blk_frozen HZ6.out 5
  have e6 := blk_frozen HZ6.out 6
  have f1 := blk_frozen HG6.out 1
  go_wp2
  clear g0 g1 g2 g3 g4 g5 g6 z0 z1 z2 z3 z4 z5 z6 e0 e1 e2 e3 e4 e5 e6
  clear f1
  have hR7 := (HR6.out.set HG6.out 1 (.int .i64 (s.at_ + 1))).nums (s.at_ + 1) s.last s.upto
  have hZ7 := blk_far HZ6.out (p := ⟨g, 1, none⟩) hgg (.int .i64 (s.at_ + 1))
  obtain ⟨q1, q2, q3, q4⟩ := fin7 hZ7 hR7 (HB6.out.setCell (p := ⟨g, 1, none⟩) hg0 (.int .i64 (s.at_ + 1))) hg1 (.slice (some ad) s.src.length c0) (.int .i64 (s.at_ + 1)) (.slice A5 n5 c5) (.slice A3 s.stored.length c3) (.slice A4 s.out.length c4) (.int .i64 s.last) (.int .i64 s.upto)
  refine bodyPost_ret (results_ct rfl _ _ (g + 1) 28 _ (0, 0) _ rfl q1 Try.underlying28 rfl (by kernel_rfl)) rfl ?_
  exact ⟨_, _, _, _, _, rfl, q2, q3, (HS6.out.andThen (Spare.set g _ 1 (.int .i64 (s.at_ + 1))) hgw1).andThen q4 (by omega)⟩
end Go.Proofs.Ytjndadjhhknggaa.Q
end
section
/- The specification's step that prepares. -/
namespace Go.Proofs.Ytjndadjhhknggaa.Q
open Go.RowKit Go.Proofs.YtjndadjhhknggaaW.PrintWords Go.Proofs.YtjndadjhhknggaaW.PrintLast
set_option linter.unusedVariables false
set_option linter.unusedSimpArgs false

set_option maxHeartbeats 8000000 in
set_option maxRecDepth 100000 in
theorem sprep_calls (s : SK) (f : Nat → Nat) (A0 A2 A3 A4 : Option Addr) (c0 c2 c3 c4 : Nat) (w0 w : World) (hr : SinkRows w w0.heap.size f s (.slice A0 s.src.length c0) (.slice A2 s.pend.length c2) (.slice A3 s.stored.length c3) (.slice A4 s.out.length c4)) (hok : SKOk s) (hB : Below w0.heap.size w0 w) :
  Calls Try.prog 43 #[.agg #[.slice A0 s.src.length c0, .int .i64 s.at_, .slice A2 s.pend.length c2, .slice A3 s.stored.length c3, .slice A4 s.out.length c4, .int .i64 s.last, .int .i64 s.upto], .int .i64 2] w fun e w' => SStepRet w0 w w' e s.at_ s.last s.upto (.slice A0 s.src.length c0) (.slice A2 s.pend.length c2) (.slice A3 s.stored.length c3) (.slice A4 s.out.length c4) (stepK s 2) := by
 obtain ⟨hg, hz, hb⟩ := open28 w s (.slice A0 s.src.length c0) (.slice A2 s.pend.length c2) (.slice A3 s.stored.length c3) (.slice A4 s.out.length c4)
 have HR := Aside0.mk (hr.below hb)
 have HBW := Aside0.mk hb
 have HB := Aside0.mk (below_then hB hB.size hb)
 have HSZ := Aside0.mk hB.size
 have HOK := Aside0.mk hok
 have hu28 := Try.underlying28
 have hu68 := Try.underlying68
 have hl0 := hok.last0
 have hl1 := hok.last1
 have hl2 := hok.stored
 have t0 : 0 ≤ s.last + (s.stored.length : Int) := by omega
 by_cases q1 : s.pend.length = 0
 ·have hst : stepK s 2 = none := by unfold stepK; rw [if_neg (by decide), if_pos rfl]; rw [if_pos (by omega)]
  rw [hst]
  have t1 : ((s.pend.length : Int) == 0) = true := by rw [beq_iff_eq]; omega
  clear hr hb hok hB hst q1
  go_enter Try.func43, Try.ntmps43
  go_upto_region 1 with fail
  generalize hgw : w.heap.size = g at hg hz HBW HSZ ⊢
  generalize (w.alloc (.cells #[.slice A0 s.src.length c0, .int .i64 s.at_, .slice A2 s.pend.length c2, .slice A3 s.stored.length c3, .slice A4 s.out.length c4, .int .i64 s.last, .int .i64 s.upto] 28)).alloc (.cells #[.slice none 0 0, .int .i64 0, .slice none 0 0, .slice none 0 0, .slice none 0 0, .int .i64 0, .int .i64 0] 28) = W at hg hz HR HB HBW  ⊢
  have HG := Aside0.mk hg
  have HZ := Aside0.mk hz
  have HGW := Aside0.mk hgw
  have HSP := Aside0.mk (show Spare0 w W from Spare0.of_below (hgw ▸ HBW.out))
  have hg0 : w0.heap.size ≤ g := HSZ.out
  have hg1 : w0.heap.size ≤ g + 1 := Nat.le_succ_of_le hg0
  have hgg : g + 1 ≠ g := by omega
  have hgw1 : w.heap.size ≤ g := by omega
  clear hz hgw
  obtain ⟨g0, g1, g2, g3, g4, g5, g6⟩ := cells7_ hg
  clear hg
  obtain ⟨z0, z1, z2, z3, z4, z5, z6⟩ := cells7_ HZ.out
  have e0 := blk_frozen HZ.out 0
  have e1 := blk_frozen HZ.out 1
  have e2 := blk_frozen HZ.out 2
  have e3 := blk_frozen HZ.out 3
  have e4 := blk_frozen HZ.out 4
  have e5 := blk_frozen HZ.out 5
  have e6 := blk_frozen HZ.out 6
  go_wp2
  clear g0 g1 g2 g3 g4 g5 g6 z0 z1 z2 z3 z4 z5 z6 e0 e1 e2 e3 e4 e5 e6
  obtain ⟨q1, -, q3, -⟩ := fin7 (w0 := w) HZ.out HR.out (by have h_ := HBW.out; rw [← HGW.out] at h_; exact h_) (by omega) (.slice A0 s.src.length c0) (.int .i64 s.at_) (.slice A2 s.pend.length c2) (.slice A3 s.stored.length c3) (.slice A4 s.out.length c4) (.int .i64 s.last) (.int .i64 s.upto)
  refine bodyPost_ret (results_ct rfl _ _ (g + 1) 28 _ (0, 0) _ rfl q1 Try.underlying28 rfl (by kernel_rfl)) rfl ?_
  exact ⟨rfl, q3⟩
 have t1 : ((s.pend.length : Int) == 0) = false := by rw [beq_eq_false_iff_ne]; omega
 by_cases q2 : 4 ≤ s.stored.length
 ·have hst : stepK s 2 = none := by unfold stepK; rw [if_neg (by decide), if_pos rfl]; rw [if_pos (by omega)]
  rw [hst]
  have t2 : (4 : Int) ≤ (s.stored.length : Int) := by omega
  clear hr hb hok hB hst q2
  go_enter Try.func43, Try.ntmps43
  go_upto_region 1 with fail
  generalize hgw : w.heap.size = g at hg hz HBW HSZ ⊢
  generalize (w.alloc (.cells #[.slice A0 s.src.length c0, .int .i64 s.at_, .slice A2 s.pend.length c2, .slice A3 s.stored.length c3, .slice A4 s.out.length c4, .int .i64 s.last, .int .i64 s.upto] 28)).alloc (.cells #[.slice none 0 0, .int .i64 0, .slice none 0 0, .slice none 0 0, .slice none 0 0, .int .i64 0, .int .i64 0] 28) = W at hg hz HR HB HBW  ⊢
  have HG := Aside0.mk hg
  have HZ := Aside0.mk hz
  have HGW := Aside0.mk hgw
  have HSP := Aside0.mk (show Spare0 w W from Spare0.of_below (hgw ▸ HBW.out))
  have hg0 : w0.heap.size ≤ g := HSZ.out
  have hg1 : w0.heap.size ≤ g + 1 := Nat.le_succ_of_le hg0
  have hgg : g + 1 ≠ g := by omega
  have hgw1 : w.heap.size ≤ g := by omega
  clear hz hgw
  obtain ⟨g0, g1, g2, g3, g4, g5, g6⟩ := cells7_ hg
  clear hg
  obtain ⟨z0, z1, z2, z3, z4, z5, z6⟩ := cells7_ HZ.out
  have e0 := blk_frozen HZ.out 0
  have e1 := blk_frozen HZ.out 1
  have e2 := blk_frozen HZ.out 2
  have e3 := blk_frozen HZ.out 3
  have e4 := blk_frozen HZ.out 4
  have e5 := blk_frozen HZ.out 5
  have e6 := blk_frozen HZ.out 6
  go_wp2
  clear g0 g1 g2 g3 g4 g5 g6 z0 z1 z2 z3 z4 z5 z6 e0 e1 e2 e3 e4 e5 e6
  obtain ⟨q1, -, q3, -⟩ := fin7 (w0 := w) HZ.out HR.out (by have h_ := HBW.out; rw [← HGW.out] at h_; exact h_) (by omega) (.slice A0 s.src.length c0) (.int .i64 s.at_) (.slice A2 s.pend.length c2) (.slice A3 s.stored.length c3) (.slice A4 s.out.length c4) (.int .i64 s.last) (.int .i64 s.upto)
  refine bodyPost_ret (results_ct rfl _ _ (g + 1) 28 _ (0, 0) _ rfl q1 Try.underlying28 rfl (by kernel_rfl)) rfl ?_
  exact ⟨rfl, q3⟩
 have t2 : ¬ (4 : Int) ≤ (s.stored.length : Int) := by omega
 by_cases q3 : 1000 ≤ s.last + (s.stored.length : Int)
 ·have hst : stepK s 2 = none := by unfold stepK; rw [if_neg (by decide), if_pos rfl]; rw [if_pos (by omega)]
  rw [hst]
  have t3 : (1000 : Int) ≤ s.last + (s.stored.length : Int) := q3
  clear hr hb hok hB hst q3
  go_enter Try.func43, Try.ntmps43
  go_upto_region 1 with fail
  generalize hgw : w.heap.size = g at hg hz HBW HSZ ⊢
  generalize (w.alloc (.cells #[.slice A0 s.src.length c0, .int .i64 s.at_, .slice A2 s.pend.length c2, .slice A3 s.stored.length c3, .slice A4 s.out.length c4, .int .i64 s.last, .int .i64 s.upto] 28)).alloc (.cells #[.slice none 0 0, .int .i64 0, .slice none 0 0, .slice none 0 0, .slice none 0 0, .int .i64 0, .int .i64 0] 28) = W at hg hz HR HB HBW  ⊢
  have HG := Aside0.mk hg
  have HZ := Aside0.mk hz
  have HGW := Aside0.mk hgw
  have HSP := Aside0.mk (show Spare0 w W from Spare0.of_below (hgw ▸ HBW.out))
  have hg0 : w0.heap.size ≤ g := HSZ.out
  have hg1 : w0.heap.size ≤ g + 1 := Nat.le_succ_of_le hg0
  have hgg : g + 1 ≠ g := by omega
  have hgw1 : w.heap.size ≤ g := by omega
  clear hz hgw
  obtain ⟨g0, g1, g2, g3, g4, g5, g6⟩ := cells7_ hg
  clear hg
  obtain ⟨z0, z1, z2, z3, z4, z5, z6⟩ := cells7_ HZ.out
  have e0 := blk_frozen HZ.out 0
  have e1 := blk_frozen HZ.out 1
  have e2 := blk_frozen HZ.out 2
  have e3 := blk_frozen HZ.out 3
  have e4 := blk_frozen HZ.out 4
  have e5 := blk_frozen HZ.out 5
  have e6 := blk_frozen HZ.out 6
  go_wp2
  clear g0 g1 g2 g3 g4 g5 g6 z0 z1 z2 z3 z4 z5 z6 e0 e1 e2 e3 e4 e5 e6
  obtain ⟨q1, -, q3, -⟩ := fin7 (w0 := w) HZ.out HR.out (by have h_ := HBW.out; rw [← HGW.out] at h_; exact h_) (by omega) (.slice A0 s.src.length c0) (.int .i64 s.at_) (.slice A2 s.pend.length c2) (.slice A3 s.stored.length c3) (.slice A4 s.out.length c4) (.int .i64 s.last) (.int .i64 s.upto)
  refine bodyPost_ret (results_ct rfl _ _ (g + 1) 28 _ (0, 0) _ rfl q1 Try.underlying28 rfl (by kernel_rfl)) rfl ?_
  exact ⟨rfl, q3⟩
 have t3 : ¬ (1000 : Int) ≤ s.last + (s.stored.length : Int) := q3
 have hst : stepK s 2 = some { s with stored := s.stored ++ [⟨s.last + s.stored.length + 1, s.at_, s.pend⟩], pend := [] } := by unfold stepK; rw [if_neg (by decide), if_pos rfl]; rw [if_neg (by omega)]
 rw [hst]
 clear hr hb hok hB hst
 go_enter Try.func43, Try.ntmps43
 go_upto_region 1 with fail
 generalize hgw : w.heap.size = g at hg hz HBW HSZ ⊢
 generalize (w.alloc (.cells #[.slice A0 s.src.length c0, .int .i64 s.at_, .slice A2 s.pend.length c2, .slice A3 s.stored.length c3, .slice A4 s.out.length c4, .int .i64 s.last, .int .i64 s.upto] 28)).alloc (.cells #[.slice none 0 0, .int .i64 0, .slice none 0 0, .slice none 0 0, .slice none 0 0, .int .i64 0, .int .i64 0] 28) = W at hg hz HR HB HBW  ⊢
 have HG := Aside0.mk hg
 have HZ := Aside0.mk hz
 have HGW := Aside0.mk hgw
 have HSP := Aside0.mk (show Spare0 w W from Spare0.of_below (hgw ▸ HBW.out))
 have hg0 : w0.heap.size ≤ g := HSZ.out
 have hg1 : w0.heap.size ≤ g + 1 := Nat.le_succ_of_le hg0
 have hgg : g + 1 ≠ g := by omega
 have hgw1 : w.heap.size ≤ g := by omega
 clear hz hgw
 obtain ⟨g0, g1, g2, g3, g4, g5, g6⟩ := cells7_ hg
 clear hg
 go_wp2_with (at_builtin; refine Kd.Q_append k68 (w0 := w0) w0.heap.size rfl (.tmp 56) (.tmp 67) 26 68 _ 40 rfl Try.underlying26 info68 rfl (by decide) (by omega) _ s.stored ⟨s.last + (s.stored.length : Int) + 1, s.at_, s.pend⟩ [.int .i64 (s.last + (s.stored.length : Int) + 1), .int .i64 s.at_, .slice A2 s.pend.length c2] (fun k => prepcol f W.heap.size k = 3) (fun k => k < W.heap.size ∧ f k = 2) rfl rfl (k68_mkM _ _ _ _ (Kd.R_mono (Kd.R_bound HR.out.r2) (fun k hk => ⟨hk.2.2.1, hk.1⟩))) (fun k hk => ⟨by simp [prepcol, hk.1, hk.2], fun e => by have h3 : f k = 3 := HR.out.r3.1 k e.symm; have h2 : f k = 2 := hk.2; omega⟩) (fun k hk => by simp [prepcol]; omega) (Kd.Q_mono (Kd.Q_bound HR.out.r3) (fun k hk => by have h1 : f k = 3 := hk.1; simp [prepcol, hk.2.2.1, h1])) HB.out HB.out.size (by omega) ?_; intro v5 w5 hr5 hb5 hg5 hat5; obtain ⟨A5, n5, c5, rfl⟩ := Q_slice3 hr5; have HG5 := Aside0.mk (HG.out.grown hg5 (R_typed68 HR.out.r3) (by decide)); have HR5 := Aside0.mk (HR.out.prep hg5 _ hr5); have HS5 := Aside0.mk (HSP.out.andThen (g := g) (Spare.grown hg5 (R_typed68 HR.out.r3) (Or.inr rfl)) hgw1); have HZ5 := Aside0.mk (blk_grown HZ.out hg5 (fun e => by obtain ⟨cs, hcs⟩ := R_typed68 HR.out.r3 _ e.symm; rw [HZ.out] at hcs; injection hcs with hcs; injection hcs with _ hcs; exact absurd hcs (by decide))); have HB5 := Aside0.mk hb5; clear hr5 hb5 hg5 hat5 g0 g1 g2 g3 g4 g5 g6; obtain ⟨g0, g1, g2, g3, g4, g5, g6⟩ := cells7_ HG5.out; obtain ⟨z0, z1, z2, z3, z4, z5, z6⟩ := cells7_ HZ5.out; have e0 := blk_frozen HZ5.out 0; have e1 := blk_frozen HZ5.out 1; have e2 := blk_frozen HZ5.out 2; have e3 := blk_frozen HZ5.out 3; have e4 := blk_frozen HZ5.out 4; have e5 := blk_frozen HZ5.out 5; have e6 := blk_frozen HZ5.out 6; have f2 := blk_frozen HG5.out 2; have f3 := blk_frozen HG5.out 3)
 clear g0 g1 g2 g3 g4 g5 g6 z0 z1 z2 z3 z4 z5 z6 e0 e1 e2 e3 e4 e5 e6
 clear f2 f3
 have hG6 := HG5.out.set3 (.slice A5 n5 c5)
 have hR6 := HR5.out.set HG5.out 3 (.slice A5 n5 c5)
 have hR7 := hR6.set hG6 2 (.slice none 0 0)
 have hZ7 := blk_far (blk_far HZ5.out (p := ⟨g, 3, none⟩) hgg (.slice A5 n5 c5)) (p := ⟨g, 2, none⟩) hgg (.slice none 0 0)
 obtain ⟨q1, q2, q3, q4⟩ := fin7 hZ7 hR7 ((HB5.out.setCell (p := ⟨g, 3, none⟩) hg0 (.slice A5 n5 c5)).setCell (p := ⟨g, 2, none⟩) hg0 (.slice none 0 0)) hg1 (.slice A0 s.src.length c0) (.int .i64 s.at_) (.slice none 0 0) (.slice A5 n5 c5) (.slice A4 s.out.length c4) (.int .i64 s.last) (.int .i64 s.upto)
 refine bodyPost_ret (results_ct rfl _ _ (g + 1) 28 _ (0, 0) _ rfl q1 Try.underlying28 rfl (by kernel_rfl)) rfl ?_
 exact ⟨_, _, _, _, _, rfl, q2, q3, ((HS5.out.andThen (Spare.set g _ 3 (.slice A5 n5 c5)) hgw1).andThen (Spare.set g _ 2 (.slice none 0 0)) hgw1).andThen q4 (by omega)⟩
end Go.Proofs.Ytjndadjhhknggaa.Q
end
section
/- The specification's step that commits. -/
namespace Go.Proofs.Ytjndadjhhknggaa.Q
open Go.RowKit Go.Proofs.YtjndadjhhknggaaW.PrintWords Go.Proofs.YtjndadjhhknggaaW.PrintLast
set_option linter.unusedVariables false
set_option linter.unusedSimpArgs false

set_option maxHeartbeats 8000000 in
set_option maxRecDepth 100000 in
theorem scommit_calls (s : SK) (f : Nat → Nat) (A0 A2 A3 A4 : Option Addr) (c0 c2 c3 c4 : Nat) (w0 w : World) (hr : SinkRows w w0.heap.size f s (.slice A0 s.src.length c0) (.slice A2 s.pend.length c2) (.slice A3 s.stored.length c3) (.slice A4 s.out.length c4)) (hok : SKOk s) (hB : Below w0.heap.size w0 w) :
  Calls Try.prog 43 #[.agg #[.slice A0 s.src.length c0, .int .i64 s.at_, .slice A2 s.pend.length c2, .slice A3 s.stored.length c3, .slice A4 s.out.length c4, .int .i64 s.last, .int .i64 s.upto], .int .i64 3] w fun e w' => SStepRet w0 w w' e s.at_ s.last s.upto (.slice A0 s.src.length c0) (.slice A2 s.pend.length c2) (.slice A3 s.stored.length c3) (.slice A4 s.out.length c4) (stepK s 3) := by
 obtain ⟨hg, hz, hb⟩ := open28 w s (.slice A0 s.src.length c0) (.slice A2 s.pend.length c2) (.slice A3 s.stored.length c3) (.slice A4 s.out.length c4)
 have HR := Aside0.mk (hr.below hb)
 have HBW := Aside0.mk hb
 have HB := Aside0.mk (below_then hB hB.size hb)
 have HSZ := Aside0.mk hB.size
 have HOK := Aside0.mk hok
 have hu28 := Try.underlying28
 have hu68 := Try.underlying68
 have hcs : s.stored = [] ∨ ∃ p r, s.stored = p :: r := by cases s.stored <;> simp
 rcases hcs with hst0 | ⟨p, r, hst0⟩
 ·have hst : stepK s 3 = none := by unfold stepK; rw [if_neg (by decide), if_neg (by decide), if_pos rfl]; rw [hst0]
  have t1 : ((s.stored.length : Int) == 0) = true := by rw [hst0]; rfl
  rw [hst]
  have HT1 := Aside0.mk t1
  clear hr hb hok hB hst hst0 t1
  go_enter Try.func43, Try.ntmps43
  go_upto_region 1 with fail
  generalize hgw : w.heap.size = g at hg hz HBW HSZ ⊢
  generalize (w.alloc (.cells #[.slice A0 s.src.length c0, .int .i64 s.at_, .slice A2 s.pend.length c2, .slice A3 s.stored.length c3, .slice A4 s.out.length c4, .int .i64 s.last, .int .i64 s.upto] 28)).alloc (.cells #[.slice none 0 0, .int .i64 0, .slice none 0 0, .slice none 0 0, .slice none 0 0, .int .i64 0, .int .i64 0] 28) = W at hg hz HR HB HBW  ⊢
  have HG := Aside0.mk hg
  have HZ := Aside0.mk hz
  have HGW := Aside0.mk hgw
  have HSP := Aside0.mk (show Spare0 w W from Spare0.of_below (hgw ▸ HBW.out))
  have hg0 : w0.heap.size ≤ g := HSZ.out
  have hg1 : w0.heap.size ≤ g + 1 := Nat.le_succ_of_le hg0
  have hgg : g + 1 ≠ g := by omega
  have hgw1 : w.heap.size ≤ g := by omega
  clear hz hgw
  have t1 := HT1.out
  obtain ⟨g0, g1, g2, g3, g4, g5, g6⟩ := cells7_ hg
  clear hg
  obtain ⟨z0, z1, z2, z3, z4, z5, z6⟩ := cells7_ HZ.out
  have e0 := blk_frozen HZ.out 0
  have e1 := blk_frozen HZ.out 1
  have e2 := blk_frozen HZ.out 2
  have e3 := blk_frozen HZ.out 3
  have e4 := blk_frozen HZ.out 4
  have e5 := blk_frozen HZ.out 5
  have e6 := blk_frozen HZ.out 6
  go_wp2
  clear g0 g1 g2 g3 g4 g5 g6 z0 z1 z2 z3 z4 z5 z6 e0 e1 e2 e3 e4 e5 e6
  obtain ⟨q1, -, q3, -⟩ := fin7 (w0 := w) HZ.out HR.out (by have h_ := HBW.out; rw [← HGW.out] at h_; exact h_) (by omega) (.slice A0 s.src.length c0) (.int .i64 s.at_) (.slice A2 s.pend.length c2) (.slice A3 s.stored.length c3) (.slice A4 s.out.length c4) (.int .i64 s.last) (.int .i64 s.upto)
  refine bodyPost_ret (results_ct rfl _ _ (g + 1) 28 _ (0, 0) _ rfl q1 Try.underlying28 rfl (by kernel_rfl)) rfl ?_
  exact ⟨rfl, q3⟩
 ·have hst : stepK s 3 = some { s with out := s.out ++ p.f2, last := p.f0, upto := p.f1, stored := r } := by unfold stepK; rw [if_neg (by decide), if_neg (by decide), if_pos rfl]; rw [hst0]
  have t1 : ((s.stored.length : Int) == 0) = false := by rw [hst0, beq_eq_false_iff_ne]; simp; omega
  have t2 : 0 < s.stored.length := by rw [hst0]; simp
  have hpl : p.f2.length ≤ 1000 := hok.rows p (by rw [hst0]; simp)
  have hol := hok.out
  have HST := Aside0.mk hst0
  rw [hst]
  obtain ⟨ad, Ap, cp, eA, x0, x1, x2, hlp, hCp⟩ := at_T68 (Kd.Q_reads' (hr.below hb).r3).2.2 0 (by omega) (by omega)
  subst eA
  have hy0 : rd_T68 s.stored 0 = p := by rw [hst0]; rfl
  rw [hy0] at x0 x1 x2 hlp hCp
  simp only [Int.toNat_zero, Nat.zero_mul, Addr.add_zero'] at x0 x1 x2
  have HCP := Aside0.mk (And.intro hlp hCp)
  obtain ⟨A', hcutR, hcutQ⟩ := X_cutQ k68 (P := Try.prog) 26 68 Try.underlying26 info68 (some ad) s.stored.length c3 1 t2
  have HCQ := Aside0.mk hcutQ
  have hcut1 : ∀ W : World, (Instr.slice 26 (.slice (some ad) s.stored.length c3) (some (.int .i64 1)) none none).run Try.prog W = .ok (.slice A' (s.stored.length - 1) (c3 - 1)) W := hcutR
  clear hcutR hcutQ hr hb hok hB hst hst0 hlp hCp hy0
  go_enter Try.func43, Try.ntmps43
  go_upto_region 1 with fail
  generalize hgw : w.heap.size = g at hg hz HBW HSZ ⊢
  generalize (w.alloc (.cells #[.slice A0 s.src.length c0, .int .i64 s.at_, .slice A2 s.pend.length c2, .slice (some ad) s.stored.length c3, .slice A4 s.out.length c4, .int .i64 s.last, .int .i64 s.upto] 28)).alloc (.cells #[.slice none 0 0, .int .i64 0, .slice none 0 0, .slice none 0 0, .slice none 0 0, .int .i64 0, .int .i64 0] 28) = W at hg hz HR HB HBW x0 x1 x2 HCP ⊢
  have HG := Aside0.mk hg
  have HZ := Aside0.mk hz
  have HGW := Aside0.mk hgw
  have HSP := Aside0.mk (show Spare0 w W from Spare0.of_below (hgw ▸ HBW.out))
  have hg0 : w0.heap.size ≤ g := HSZ.out
  have hg1 : w0.heap.size ≤ g + 1 := Nat.le_succ_of_le hg0
  have hgg : g + 1 ≠ g := by omega
  have hgw1 : w.heap.size ≤ g := by omega
  clear hz hgw
  obtain ⟨g0, g1, g2, g3, g4, g5, g6⟩ := cells7_ hg
  go_upto_region 19 with fail
  have hb_ : Below W.heap.size W (W.alloc (.cells #[.int .i64 p.f0, .int .i64 p.f1, .slice Ap p.f2.length cp] 68)) := below_alloc (Below.refl _ _) _
  have HQ := Aside0.mk (blk_new W (.cells #[.int .i64 p.f0, .int .i64 p.f1, .slice Ap p.f2.length cp] 68))
  have HGQ := Aside0.mk (Nat.ne_of_lt (blk_lt hg) : g ≠ W.heap.size)
  have HGZ := Aside0.mk (Nat.ne_of_lt (blk_lt HZ.out) : g + 1 ≠ W.heap.size)
  clear hg
  have HG := Aside0.mk (HG.out.below hb_)
  have HZ := Aside0.mk (blk_below HZ.out hb_)
  have HR := Aside0.mk (HR.out.below hb_)
  have HB := Aside0.mk (below_then HB.out HB.out.size hb_)
  have HSP := Aside0.mk (HSP.out.trans (Spare0.of_below hb_))
  have HCP := Aside0.mk (And.intro HCP.out.1 (Kd.C_below HCP.out.2 hb_))
  clear hb_ g0 g1 g2 g3 g4 g5 g6 x0 x1 x2
  generalize W.heap.size = q at HQ HGQ HGZ ⊢
  generalize W.alloc (.cells #[.int .i64 p.f0, .int .i64 p.f1, .slice Ap p.f2.length cp] 68) = w2 at HG HZ HR HB HSP HQ HCP ⊢
  have hgq : g ≠ q := HGQ.out
  have hqg : q ≠ g := HGQ.out.symm
  have hgq2 : g + 1 ≠ q := HGZ.out
  obtain ⟨g0, g1, g2, g3, g4, g5, g6⟩ := cells7_ HG.out
  obtain ⟨y0, y1, y2⟩ := cells3_ HQ.out
  have HRC := Aside0.mk (HR.out.recol w2.heap.size 4 (Nat.le_refl _)); clear HR
  go_wp2_with (at_builtin; refine Kd.R_append_rows (Kd.int .i64) (w0 := w0) w0.heap.size rfl (.tmp 82) (.tmp 84) 23 3 _ 8 rfl Try.underlying23 info3_ rfl (by decide) (by omega) _ s.out p.f2 Ap p.f2.length cp (fun k => recol f w2.heap.size 4 k = 4) (fun _ => False) rfl rfl HRC.out.r4 HCP.out.2 (fun _ _ h => h) (fun _ h => h.elim) (fun k hk => recol_ge hk) HB.out HB.out.size (by omega) ?_; intro v5 w5 hr5 hb5 hg5 hat5; obtain ⟨A5, n5, c5, rfl⟩ := R_slice3 hr5; have HG5 := Aside0.mk (HG.out.grown hg5 (R_typed3 HRC.out.r4) (by decide)); have HR5 := Aside0.mk (HRC.out.out hg5 _ hr5); have HS5 := Aside0.mk (HSP.out.andThen (g := g) (Spare.grown hg5 (R_typed3 HRC.out.r4) (Or.inl rfl)) hgw1); have HZ5 := Aside0.mk (blk_grown HZ.out hg5 (fun e => by obtain ⟨cs, hcs⟩ := R_typed3 HRC.out.r4 _ e.symm; rw [HZ.out] at hcs; injection hcs with hcs; injection hcs with _ hcs; exact absurd hcs (by decide))); have HQ5 := Aside0.mk (blk_grown HQ.out hg5 (fun e => by obtain ⟨cs, hcs⟩ := R_typed3 HRC.out.r4 _ e.symm; rw [HQ.out] at hcs; injection hcs with hcs; injection hcs with _ hcs; exact absurd hcs (by decide))); have HB5 := Aside0.mk hb5; clear hr5 hb5 hg5 hat5 g0 g1 g2 g3 g4 g5 g6 y0 y1 y2; obtain ⟨y0, y1, y2⟩ := cells3_ HQ5.out; obtain ⟨g0, g1, g2, g3, g4, g5, g6⟩ := cells7_ HG5.out; obtain ⟨z0, z1, z2, z3, z4, z5, z6⟩ := cells7_ HZ5.out; have e0 := blk_frozen HZ5.out 0; have e1 := blk_frozen HZ5.out 1; have e2 := blk_frozen HZ5.out 2; have e3 := blk_frozen HZ5.out 3; have e4 := blk_frozen HZ5.out 4; have e5 := blk_frozen HZ5.out 5; have e6 := blk_frozen HZ5.out 6; have f3 := blk_frozen HG5.out 3; have f4 := blk_frozen HG5.out 4; have f5 := blk_frozen HG5.out 5; have f6 := blk_frozen HG5.out 6)
  clear g0 g1 g2 g3 g4 g5 g6 z0 z1 z2 z3 z4 z5 z6 e0 e1 e2 e3 e4 e5 e6
  clear f3 f4 f5 f6 y0 y1 y2
  have hG6 := HG5.out.set4 (.slice A5 n5 c5)
  have hR6 := HR5.out.set HG5.out 4 (.slice A5 n5 c5)
  have hR7 := (hR6.set hG6 5 (.int .i64 p.f0)).nums s.at_ p.f0 s.upto
  have hG7 := hG6.set5 p.f0
  have hR8 := (hR7.set hG7 6 (.int .i64 p.f1)).nums s.at_ p.f0 p.f1
  have hG8 := hG7.set6 p.f1
  have hq3 := HCQ.out _ _ _ _ hR8.r3 t2
  have hdrop : s.stored.drop 1 = r := by rw [HST.out]; rfl
  simp only at hq3
  rw [hdrop] at hq3
  have hR9 : SinkRows _ w0.heap.size _ { s with out := s.out ++ p.f2, last := p.f0, upto := p.f1, stored := r } _ _ (.slice A' (s.stored.length - 1) (c3 - 1)) _ := ⟨hR8.r0, hR8.r2, hq3, hR8.r4⟩
  have hR10 := hR9.set hG8 3 (.slice A' (s.stored.length - 1) (c3 - 1))
  have hZ9 := blk_far (blk_far (blk_far (blk_far HZ5.out (p := ⟨g, 4, none⟩) hgg (.slice A5 n5 c5)) (p := ⟨g, 5, none⟩) hgg (.int .i64 p.f0)) (p := ⟨g, 6, none⟩) hgg (.int .i64 p.f1)) (p := ⟨g, 3, none⟩) hgg (.slice A' (s.stored.length - 1) (c3 - 1))
  have hB9 := (((HB5.out.setCell (p := ⟨g, 4, none⟩) hg0 (.slice A5 n5 c5)).setCell (p := ⟨g, 5, none⟩) hg0 (.int .i64 p.f0)).setCell (p := ⟨g, 6, none⟩) hg0 (.int .i64 p.f1)).setCell (p := ⟨g, 3, none⟩) hg0 (.slice A' (s.stored.length - 1) (c3 - 1))
  obtain ⟨q1, q2, q3, q4⟩ := fin7 hZ9 hR10 hB9 hg1 (.slice A0 s.src.length c0) (.int .i64 s.at_) (.slice A2 s.pend.length c2) (.slice A' (s.stored.length - 1) (c3 - 1)) (.slice A5 n5 c5) (.int .i64 p.f0) (.int .i64 p.f1)
  refine bodyPost_ret (results_ct rfl _ _ (g + 1) 28 _ (0, 0) _ rfl q1 Try.underlying28 rfl (by kernel_rfl)) rfl ?_
  exact ⟨_, _, _, _, _, rfl, q2, q3, ((((HS5.out.andThen (Spare.set g _ 4 (.slice A5 n5 c5)) hgw1).andThen (Spare.set g _ 5 (.int .i64 p.f0)) hgw1).andThen (Spare.set g _ 6 (.int .i64 p.f1)) hgw1).andThen (Spare.set g _ 3 (.slice A' (s.stored.length - 1) (c3 - 1))) hgw1).andThen q4 (by omega)⟩
end Go.Proofs.Ytjndadjhhknggaa.Q
end
section
/- The specification's step, whole. -/
namespace Go.Proofs.Ytjndadjhhknggaa.Q
open Go.RowKit Go.Proofs.YtjndadjhhknggaaW.PrintWords Go.Proofs.YtjndadjhhknggaaW.PrintLast
set_option linter.unusedVariables false
set_option linter.unusedSimpArgs false

set_option maxHeartbeats 8000000 in
set_option maxRecDepth 100000 in
theorem scrash_calls (s : SK) (f : Nat → Nat) (A0 A2 A3 A4 : Option Addr) (c0 c2 c3 c4 : Nat) (w0 w : World) (hr : SinkRows w w0.heap.size f s (.slice A0 s.src.length c0) (.slice A2 s.pend.length c2) (.slice A3 s.stored.length c3) (.slice A4 s.out.length c4)) (hok : SKOk s) (hB : Below w0.heap.size w0 w) :
  Calls Try.prog 43 #[.agg #[.slice A0 s.src.length c0, .int .i64 s.at_, .slice A2 s.pend.length c2, .slice A3 s.stored.length c3, .slice A4 s.out.length c4, .int .i64 s.last, .int .i64 s.upto], .int .i64 4] w fun e w' => SStepRet w0 w w' e s.at_ s.last s.upto (.slice A0 s.src.length c0) (.slice A2 s.pend.length c2) (.slice A3 s.stored.length c3) (.slice A4 s.out.length c4) (stepK s 4) := by
 obtain ⟨hg, hz, hb⟩ := open28 w s (.slice A0 s.src.length c0) (.slice A2 s.pend.length c2) (.slice A3 s.stored.length c3) (.slice A4 s.out.length c4)
 have HR := Aside0.mk (hr.below hb)
 have HBW := Aside0.mk hb
 have HB := Aside0.mk (below_then hB hB.size hb)
 have HSZ := Aside0.mk hB.size
 have HOK := Aside0.mk hok
 have hu28 := Try.underlying28
 have hu68 := Try.underlying68
 have hst : stepK s 4 = some (crashK s) := rfl
 rw [hst]
 have HC := Aside0.mk (fun (W : World) (h : SinkRows W w0.heap.size f s (.slice A0 s.src.length c0) (.slice A2 s.pend.length c2) (.slice A3 s.stored.length c3) (.slice A4 s.out.length c4)) => specCrash_calls s f A0 A2 A3 A4 c0 c2 c3 c4 w0.heap.size W h hok.stored)
 clear hr hb hok hB hst
 go_enter Try.func43, Try.ntmps43
 go_upto_region 1 with fail
 generalize hgw : w.heap.size = g at hg hz HBW HSZ ⊢
 generalize (w.alloc (.cells #[.slice A0 s.src.length c0, .int .i64 s.at_, .slice A2 s.pend.length c2, .slice A3 s.stored.length c3, .slice A4 s.out.length c4, .int .i64 s.last, .int .i64 s.upto] 28)).alloc (.cells #[.slice none 0 0, .int .i64 0, .slice none 0 0, .slice none 0 0, .slice none 0 0, .int .i64 0, .int .i64 0] 28) = W at hg hz HR HB HBW  ⊢
 have HG := Aside0.mk hg
 have HZ := Aside0.mk hz
 have HGW := Aside0.mk hgw
 have HSP := Aside0.mk (show Spare0 w W from Spare0.of_below (hgw ▸ HBW.out))
 have hg0 : w0.heap.size ≤ g := HSZ.out
 have hg1 : w0.heap.size ≤ g + 1 := Nat.le_succ_of_le hg0
 have hgg : g + 1 ≠ g := by omega
 have hgw1 : w.heap.size ≤ g := by omega
 clear hz hgw
 obtain ⟨g0, g1, g2, g3, g4, g5, g6⟩ := cells7_ hg
 clear hg
 go_wp2_with fail
 go_at_call 64; refine (HC.out _ HR.out).mono ?_; rintro e w1 ⟨rfl, hr1, hb1⟩
 have HZ1 := Aside0.mk (blk_below HZ.out hb1)
 have HR1 := Aside0.mk hr1
 have HB1 := Aside0.mk (below_then HB.out HB.out.size hb1)
 have HS1 := Aside0.mk (HSP.out.trans (Spare0.of_below hb1))
 clear hr1 hb1 g0 g1 g2 g3 g4 g5 g6 HC
 obtain ⟨z0, z1, z2, z3, z4, z5, z6⟩ := cells7_ HZ1.out
 have e0 := blk_frozen HZ1.out 0
 have e1 := blk_frozen HZ1.out 1
 have e2 := blk_frozen HZ1.out 2
 have e3 := blk_frozen HZ1.out 3
 have e4 := blk_frozen HZ1.out 4
 have e5 := blk_frozen HZ1.out 5
 have e6 := blk_frozen HZ1.out 6
 go_wp2
 clear z0 z1 z2 z3 z4 z5 z6 e0 e1 e2 e3 e4 e5 e6
 obtain ⟨q1, q2, q3, q4⟩ := fin7 HZ1.out HR1.out HB1.out hg1 (.slice A0 s.src.length c0) (.int .i64 (fromK s)) (.slice none 0 0) (.slice A3 s.stored.length c3) (.slice A4 s.out.length c4) (.int .i64 s.last) (.int .i64 s.upto)
 refine bodyPost_ret (results_ct rfl _ _ (g + 1) 28 _ (0, 0) _ rfl q1 Try.underlying28 rfl (by kernel_rfl)) rfl ?_
 exact ⟨_, _, _, _, _, rfl, q2, q3, (HS1.out).andThen q4 (by omega)⟩
set_option maxHeartbeats 8000000 in
set_option maxRecDepth 100000 in
theorem storn_calls (s : SK) (f : Nat → Nat) (A0 A2 A3 A4 : Option Addr) (c0 c2 c3 c4 : Nat) (w0 w : World) (hr : SinkRows w w0.heap.size f s (.slice A0 s.src.length c0) (.slice A2 s.pend.length c2) (.slice A3 s.stored.length c3) (.slice A4 s.out.length c4)) (hok : SKOk s) (hB : Below w0.heap.size w0 w) :
  Calls Try.prog 43 #[.agg #[.slice A0 s.src.length c0, .int .i64 s.at_, .slice A2 s.pend.length c2, .slice A3 s.stored.length c3, .slice A4 s.out.length c4, .int .i64 s.last, .int .i64 s.upto], .int .i64 5] w fun e w' => SStepRet w0 w w' e s.at_ s.last s.upto (.slice A0 s.src.length c0) (.slice A2 s.pend.length c2) (.slice A3 s.stored.length c3) (.slice A4 s.out.length c4) (stepK s 5) := by
 obtain ⟨hg, hz, hb⟩ := open28 w s (.slice A0 s.src.length c0) (.slice A2 s.pend.length c2) (.slice A3 s.stored.length c3) (.slice A4 s.out.length c4)
 have HR := Aside0.mk (hr.below hb)
 have HBW := Aside0.mk hb
 have HB := Aside0.mk (below_then hB hB.size hb)
 have HSZ := Aside0.mk hB.size
 have HOK := Aside0.mk hok
 have hu28 := Try.underlying28
 have hu68 := Try.underlying68
 have hl2 := hok.stored
 by_cases q : s.stored.length < 2
 ·have hst : stepK s 5 = none := by unfold stepK; rw [if_neg (by decide), if_neg (by decide), if_neg (by decide), if_neg (by decide), if_pos rfl]; rw [if_pos q]
  rw [hst]
  have q1 : (s.stored.length : Int) < 2 := by omega
  clear hr hb hok hB hst
  go_enter Try.func43, Try.ntmps43
  go_upto_region 1 with fail
  generalize hgw : w.heap.size = g at hg hz HBW HSZ ⊢
  generalize (w.alloc (.cells #[.slice A0 s.src.length c0, .int .i64 s.at_, .slice A2 s.pend.length c2, .slice A3 s.stored.length c3, .slice A4 s.out.length c4, .int .i64 s.last, .int .i64 s.upto] 28)).alloc (.cells #[.slice none 0 0, .int .i64 0, .slice none 0 0, .slice none 0 0, .slice none 0 0, .int .i64 0, .int .i64 0] 28) = W at hg hz HR HB HBW  ⊢
  have HG := Aside0.mk hg
  have HZ := Aside0.mk hz
  have HGW := Aside0.mk hgw
  have HSP := Aside0.mk (show Spare0 w W from Spare0.of_below (hgw ▸ HBW.out))
  have hg0 : w0.heap.size ≤ g := HSZ.out
  have hg1 : w0.heap.size ≤ g + 1 := Nat.le_succ_of_le hg0
  have hgg : g + 1 ≠ g := by omega
  have hgw1 : w.heap.size ≤ g := by omega
  clear hz hgw
  obtain ⟨g0, g1, g2, g3, g4, g5, g6⟩ := cells7_ hg
  clear hg
  obtain ⟨z0, z1, z2, z3, z4, z5, z6⟩ := cells7_ HZ.out
  have e0 := blk_frozen HZ.out 0
  have e1 := blk_frozen HZ.out 1
  have e2 := blk_frozen HZ.out 2
  have e3 := blk_frozen HZ.out 3
  have e4 := blk_frozen HZ.out 4
  have e5 := blk_frozen HZ.out 5
  have e6 := blk_frozen HZ.out 6
  go_wp2
  clear g0 g1 g2 g3 g4 g5 g6 z0 z1 z2 z3 z4 z5 z6 e0 e1 e2 e3 e4 e5 e6
  obtain ⟨q1, -, q3, -⟩ := fin7 (w0 := w) HZ.out HR.out (by have h_ := HBW.out; rw [← HGW.out] at h_; exact h_) (by omega) (.slice A0 s.src.length c0) (.int .i64 s.at_) (.slice A2 s.pend.length c2) (.slice A3 s.stored.length c3) (.slice A4 s.out.length c4) (.int .i64 s.last) (.int .i64 s.upto)
  refine bodyPost_ret (results_ct rfl _ _ (g + 1) 28 _ (0, 0) _ rfl q1 Try.underlying28 rfl (by kernel_rfl)) rfl ?_
  exact ⟨rfl, q3⟩
 ·have hst : stepK s 5 = some (crashK { s with stored := s.stored.take (s.stored.length - 1) }) := by unfold stepK; rw [if_neg (by decide), if_neg (by decide), if_neg (by decide), if_neg (by decide), if_pos rfl]; rw [if_neg q]
  rw [hst]
  have q1 : ¬ (s.stored.length : Int) < 2 := by omega
  have hc3 := (Kd.Q_reads' hr.r3).2.1
  have q2 : 1 ≤ (s.stored.length : Int) := by omega
  have q4 : (s.stored.length : Int) ≤ 1000 := by omega
  have q3 : (s.stored.length : Int) - 1 ≤ (c3 : Int) := by omega
  have hlen : (s.stored.take (s.stored.length - 1)).length = s.stored.length - 1 := by rw [List.length_take]; omega
  have HTK := Aside0.mk (show ∀ (W : World) (ok : Nat → Prop), Kd.Q k68 68 W w0.heap.size ok (.slice A3 s.stored.length c3) s.stored → Kd.Q k68 68 W w0.heap.size ok (.slice A3 (s.stored.length - 1) c3) (s.stored.take (s.stored.length - 1)) from fun W ok h => Kd.Q_take h (by omega))
  have HC : Aside0 (∀ (W : World), SinkRows W w0.heap.size f { s with stored := s.stored.take (s.stored.length - 1) } (.slice A0 s.src.length c0) (.slice A2 s.pend.length c2) (.slice A3 (s.stored.length - 1) c3) (.slice A4 s.out.length c4) → Calls Try.prog 64 #[.agg #[.slice A0 s.src.length c0, .int .i64 s.at_, .slice A2 s.pend.length c2, .slice A3 (s.stored.length - 1) c3, .slice A4 s.out.length c4, .int .i64 s.last, .int .i64 s.upto]] W fun e w' => e = .returned (.agg #[.slice A0 s.src.length c0, .int .i64 (fromK { s with stored := s.stored.take (s.stored.length - 1) }), .slice none 0 0, .slice A3 (s.stored.length - 1) c3, .slice A4 s.out.length c4, .int .i64 s.last, .int .i64 s.upto]) ∧ SinkRows w' w0.heap.size f (crashK { s with stored := s.stored.take (s.stored.length - 1) }) (.slice A0 s.src.length c0) (.slice none 0 0) (.slice A3 (s.stored.length - 1) c3) (.slice A4 s.out.length c4) ∧ Below W.heap.size W w') := ⟨fun W h => by
   have hh := specCrash_calls { s with stored := s.stored.take (s.stored.length - 1) } f A0 A2 A3 A4 c0 c2 c3 c4 w0.heap.size W (by show SinkRows _ _ _ _ _ _ (.slice A3 (s.stored.take (s.stored.length - 1)).length c3) _; rw [hlen]; exact h) (by show (s.stored.take (s.stored.length - 1)).length ≤ 1000; rw [hlen]; omega)
   simp only [hlen] at hh
   exact hh⟩
  clear hr hb hok hB hst hlen hc3 q hl2
  go_enter Try.func43, Try.ntmps43
  go_upto_region 1 with fail
  generalize hgw : w.heap.size = g at hg hz HBW HSZ ⊢
  generalize (w.alloc (.cells #[.slice A0 s.src.length c0, .int .i64 s.at_, .slice A2 s.pend.length c2, .slice A3 s.stored.length c3, .slice A4 s.out.length c4, .int .i64 s.last, .int .i64 s.upto] 28)).alloc (.cells #[.slice none 0 0, .int .i64 0, .slice none 0 0, .slice none 0 0, .slice none 0 0, .int .i64 0, .int .i64 0] 28) = W at hg hz HR HB HBW  ⊢
  have HG := Aside0.mk hg
  have HZ := Aside0.mk hz
  have HGW := Aside0.mk hgw
  have HSP := Aside0.mk (show Spare0 w W from Spare0.of_below (hgw ▸ HBW.out))
  have hg0 : w0.heap.size ≤ g := HSZ.out
  have hg1 : w0.heap.size ≤ g + 1 := Nat.le_succ_of_le hg0
  have hgg : g + 1 ≠ g := by omega
  have hgw1 : w.heap.size ≤ g := by omega
  clear hz hgw
  obtain ⟨g0, g1, g2, g3, g4, g5, g6⟩ := cells7_ hg
  clear hg
  have f3 := blk_frozen HG.out 3
  go_upto_region 30 with fail
  clear g0 g1 g2 g3 g4 g5 g6 f3
  have hG6 := HG.out.set3 (.slice A3 (s.stored.length - 1) c3)
  have hR5 : SinkRows W w0.heap.size f { s with stored := s.stored.take (s.stored.length - 1) } (.slice A0 s.src.length c0) (.slice A2 s.pend.length c2) (.slice A3 (s.stored.length - 1) c3) (.slice A4 s.out.length c4) := ⟨HR.out.r0, HR.out.r2, HTK.out _ _ HR.out.r3, HR.out.r4⟩
  have hR6 := hR5.set HG.out 3 (.slice A3 (s.stored.length - 1) c3)
  have HS6 := Aside0.mk (HSP.out.andThen (Spare.set g _ 3 (.slice A3 (s.stored.length - 1) c3)) hgw1)
  have HB6 := Aside0.mk (HB.out.setCell (p := ⟨g, 3, none⟩) hg0 (.slice A3 (s.stored.length - 1) c3))
  have HZ6 := Aside0.mk (blk_far HZ.out (p := ⟨g, 3, none⟩) hgg (.slice A3 (s.stored.length - 1) c3))
  generalize W.setCell ⟨g, 3, none⟩ (.slice A3 (s.stored.length - 1) c3) = w6 at hG6 hR6 HS6 HB6 HZ6 ⊢
  obtain ⟨g0, g1, g2, g3, g4, g5, g6⟩ := cells7_ hG6
  have HR6 := Aside0.mk hR6
  clear hG6 hR6 hR5
  go_wp2_with fail
  go_at_call 64; refine (HC.out _ HR6.out).mono ?_; rintro e w1 ⟨rfl, hr1, hb1⟩
  have HZ1 := Aside0.mk (blk_below HZ6.out hb1)
  have HR1 := Aside0.mk hr1
  have HB1 := Aside0.mk (below_then HB6.out HB6.out.size hb1)
  have HS1 := Aside0.mk (HS6.out.trans (Spare0.of_below hb1))
  clear hr1 hb1 g0 g1 g2 g3 g4 g5 g6 HC
  obtain ⟨z0, z1, z2, z3, z4, z5, z6⟩ := cells7_ HZ1.out
  have e0 := blk_frozen HZ1.out 0
  have e1 := blk_frozen HZ1.out 1
  have e2 := blk_frozen HZ1.out 2
  have e3 := blk_frozen HZ1.out 3
  have e4 := blk_frozen HZ1.out 4
  have e5 := blk_frozen HZ1.out 5
  have e6 := blk_frozen HZ1.out 6
  go_wp2
  clear z0 z1 z2 z3 z4 z5 z6 e0 e1 e2 e3 e4 e5 e6
  obtain ⟨q1, q2, q3, q4⟩ := fin7 HZ1.out HR1.out HB1.out hg1 (.slice A0 s.src.length c0) (.int .i64 (fromK { s with stored := s.stored.take (s.stored.length - 1) })) (.slice none 0 0) (.slice A3 (s.stored.length - 1) c3) (.slice A4 s.out.length c4) (.int .i64 s.last) (.int .i64 s.upto)
  refine bodyPost_ret (results_ct rfl _ _ (g + 1) 28 _ (0, 0) _ rfl q1 Try.underlying28 rfl (by kernel_rfl)) rfl ?_
  exact ⟨_, _, _, _, _, rfl, q2, q3, (HS1.out).andThen q4 (by omega)⟩
set_option maxHeartbeats 8000000 in
set_option maxRecDepth 100000 in
theorem sstep_calls (kind : Int) (s : SK) (f : Nat → Nat) (A0 A2 A3 A4 : Option Addr) (c0 c2 c3 c4 : Nat) (w0 w : World) (hr : SinkRows w w0.heap.size f s (.slice A0 s.src.length c0) (.slice A2 s.pend.length c2) (.slice A3 s.stored.length c3) (.slice A4 s.out.length c4)) (hok : SKOk s) (hB : Below w0.heap.size w0 w) :
  Calls Try.prog 43 #[.agg #[.slice A0 s.src.length c0, .int .i64 s.at_, .slice A2 s.pend.length c2, .slice A3 s.stored.length c3, .slice A4 s.out.length c4, .int .i64 s.last, .int .i64 s.upto], .int .i64 kind] w fun e w' => SStepRet w0 w w' e s.at_ s.last s.upto (.slice A0 s.src.length c0) (.slice A2 s.pend.length c2) (.slice A3 s.stored.length c3) (.slice A4 s.out.length c4) (stepK s kind) := by
 by_cases k1 : kind = 1
 ·subst k1; exact sread_calls s f A0 A2 A3 A4 c0 c2 c3 c4 w0 w hr hok hB
 by_cases k2 : kind = 2
 ·subst k2; exact sprep_calls s f A0 A2 A3 A4 c0 c2 c3 c4 w0 w hr hok hB
 by_cases k3 : kind = 3
 ·subst k3; exact scommit_calls s f A0 A2 A3 A4 c0 c2 c3 c4 w0 w hr hok hB
 by_cases k4 : kind = 4
 ·subst k4; exact scrash_calls s f A0 A2 A3 A4 c0 c2 c3 c4 w0 w hr hok hB
 by_cases k5 : kind = 5
 ·subst k5; exact storn_calls s f A0 A2 A3 A4 c0 c2 c3 c4 w0 w hr hok hB
 rw [stepK_other s kind k1 k2 k3 k4 k5]
 obtain ⟨hg, hz, hb⟩ := open28 w s (.slice A0 s.src.length c0) (.slice A2 s.pend.length c2) (.slice A3 s.stored.length c3) (.slice A4 s.out.length c4)
 have HR := Aside0.mk (hr.below hb)
 have HBW := Aside0.mk hb
 have HB := Aside0.mk (below_then hB hB.size hb)
 have HSZ := Aside0.mk hB.size
 have HOK := Aside0.mk hok
 have hu28 := Try.underlying28
 have hu68 := Try.underlying68
 have E1 := Aside0.mk (show (kind == 1) = false by simp [k1])
 have E2 := Aside0.mk (show (kind == 2) = false by simp [k2])
 have E3 := Aside0.mk (show (kind == 3) = false by simp [k3])
 have E4 := Aside0.mk (show (kind == 4) = false by simp [k4])
 have E5 := Aside0.mk (show (kind == 5) = false by simp [k5])
 clear hr hb hok hB k1 k2 k3 k4 k5
 go_enter Try.func43, Try.ntmps43
 go_upto_region 1 with fail
 generalize hgw : w.heap.size = g at hg hz HBW HSZ ⊢
 generalize (w.alloc (.cells #[.slice A0 s.src.length c0, .int .i64 s.at_, .slice A2 s.pend.length c2, .slice A3 s.stored.length c3, .slice A4 s.out.length c4, .int .i64 s.last, .int .i64 s.upto] 28)).alloc (.cells #[.slice none 0 0, .int .i64 0, .slice none 0 0, .slice none 0 0, .slice none 0 0, .int .i64 0, .int .i64 0] 28) = W at hg hz HR HB HBW  ⊢
 have HG := Aside0.mk hg
 have HZ := Aside0.mk hz
 have HGW := Aside0.mk hgw
 have HSP := Aside0.mk (show Spare0 w W from Spare0.of_below (hgw ▸ HBW.out))
 have hg0 : w0.heap.size ≤ g := HSZ.out
 have hg1 : w0.heap.size ≤ g + 1 := Nat.le_succ_of_le hg0
 have hgg : g + 1 ≠ g := by omega
 have hgw1 : w.heap.size ≤ g := by omega
 clear hz hgw
 have h1_ := E1.out
 have h2_ := E2.out
 have h3_ := E3.out
 have h4_ := E4.out
 have h5_ := E5.out
 clear hg
 obtain ⟨g0, g1, g2, g3, g4, g5, g6⟩ := cells7_ HG.out
 obtain ⟨z0, z1, z2, z3, z4, z5, z6⟩ := cells7_ HZ.out
 have e0 := blk_frozen HZ.out 0
 have e1 := blk_frozen HZ.out 1
 have e2 := blk_frozen HZ.out 2
 have e3 := blk_frozen HZ.out 3
 have e4 := blk_frozen HZ.out 4
 have e5 := blk_frozen HZ.out 5
 have e6 := blk_frozen HZ.out 6
 go_wp2
 clear g0 g1 g2 g3 g4 g5 g6 z0 z1 z2 z3 z4 z5 z6 e0 e1 e2 e3 e4 e5 e6
 obtain ⟨q1, -, q3, -⟩ := fin7 (w0 := w) HZ.out HR.out (by have h_ := HBW.out; rw [← HGW.out] at h_; exact h_) (by omega) (.slice A0 s.src.length c0) (.int .i64 s.at_) (.slice A2 s.pend.length c2) (.slice A3 s.stored.length c3) (.slice A4 s.out.length c4) (.int .i64 s.last) (.int .i64 s.upto)
 refine bodyPost_ret (results_ct rfl _ _ (g + 1) 28 _ (0, 0) _ rfl q1 Try.underlying28 rfl (by kernel_rfl)) rfl ?_
 exact ⟨rfl, q3⟩
end Go.Proofs.Ytjndadjhhknggaa.Q
end
section
/- Contracts of a function, printed for this claim by a program of ours over the kit's print. -/
namespace Go.Proofs.Ytjndadjhhknggaa.Q
open Go.RowKit Go.Proofs.YtjndadjhhknggaaW.PrintWords Go.Proofs.YtjndadjhhknggaaW.PrintLast Go.Proofs.YtjndadjhhknggaaW.PrintMore
attribute [local go_sem] max2_int min2_int max_two min_two max_three min_three max_four min_four   -- for this text's walks alone
set_option linter.unusedVariables false
set_option linter.unusedSimpArgs false

/-! ### impl_within: function 46 -/
def impl_within.f (a0 : Int) (a1 : Int) (a2 : Int) : Option (Bool) := if a1 ≤ a0 then (some (decide (a0 ≤ a2))) else (some false)
set_option maxHeartbeats 8000000 in
set_option maxRecDepth 100000 in
theorem impl_within.calls (a0 : Int) (a1 : Int) (a2 : Int) (r : Bool) (w : World) (h : impl_within.f a0 a1 a2 = some r) :
  Calls Try.prog 46 #[.int .i64 a0, .int .i64 a1, .int .i64 a2] w fun e w' => e = .returned (.bool r) ∧ Drawn0 w w' := by
 have H : (if a1 ≤ a0 then (some (decide (a0 ≤ a2))) else (some false)) = some r := h
 clear h
 by_cases c4 : a1 ≤ a0
 ·rw [if_pos c4] at H
  have c4b0 : decide (a1 ≤ a0) = true := decide_eq_true c4
  clear c4
  obtain rfl := Option.some.inj H
  go_enter Try.func46, Try.ntmps46
  go_wp2
  go_ret
  exact ⟨by first | rfl | (simp; done) | (simp [*]; done), by repeat (first | exact Drawn0.refl _ | apply Drawn0.step)⟩
 ·rw [if_neg c4] at H
  have c4b0 : decide (a1 ≤ a0) = false := decide_eq_false c4
  clear c4
  obtain rfl := Option.some.inj H
  go_enter Try.func46, Try.ntmps46
  go_wp2
  go_ret
  exact ⟨by first | rfl | (simp; done) | (simp [*]; done), by repeat (first | exact Drawn0.refl _ | apply Drawn0.step)⟩

end Go.Proofs.Ytjndadjhhknggaa.Q
end
section
/- Contracts of a function, printed for this claim by a program of ours over the kit's print. -/
namespace Go.Proofs.Ytjndadjhhknggaa.Q
open Go.RowKit Go.Proofs.YtjndadjhhknggaaW.PrintWords Go.Proofs.YtjndadjhhknggaaW.PrintLast Go.Proofs.YtjndadjhhknggaaW.PrintMore
attribute [local go_sem] max2_int min2_int max_two min_two max_three min_three max_four min_four   -- for this text's walks alone
set_option linter.unusedVariables false
set_option linter.unusedSimpArgs false

/-! ### slices_Equal_int_int: function 47 -/
def slices_Equal_int_int.l0 : Nat → List Int → List Int → Int → Int → Option (Bool)
 | 0, _, _, _, _ => none
 | k + 1, x0, x1, x12, x13 => if x13 < x12 then (if 0 ≤ x13 then (if x13 < (x0.length : Int) then (if x13 < (x1.length : Int) then (if (rd x0 x13) = (rd x1 x13) then (slices_Equal_int_int.l0 k x0 x1 x12 (wrap64 (x13 + 1))) else (some false)) else (none)) else (none)) else (none)) else (some true)
def slices_Equal_int_int.f (k : Nat) (l0 : List Int) (l1 : List Int) : Option (Bool) := if (l0.length : Int) = (l1.length : Int) then (slices_Equal_int_int.l0 k l0 l1 (l0.length : Int) 0) else (some false)
set_option maxHeartbeats 8000000 in
set_option maxRecDepth 100000 in
theorem slices_Equal_int_int.calls (k : Nat) (A0 : Option Addr) (c0 : Nat) (l0 : List Int) (A1 : Option Addr) (c1 : Nat) (l1 : List Int) (r : Bool) (w : World) (hr0 : Kd.C (Kd.int .i64) w A0 l0.length l0) (hc0 : l0.length ≤ c0) (hr1 : Kd.C (Kd.int .i64) w A1 l1.length l1) (hc1 : l1.length ≤ c1) (h : slices_Equal_int_int.f k l0 l1 = some r) :
  Calls Try.prog 47 #[.slice A0 l0.length c0, .slice A1 l1.length c1] w fun e w' => e = .returned (.bool r) ∧ Drawn0 w w' := by
 have HR0 := Aside0.mk hr0
 have HC0 := Aside0.mk hc0
 clear hr0 hc0
 have HR1 := Aside0.mk hr1
 have HC1 := Aside0.mk hc1
 clear hr1 hc1
 have H : (if (l0.length : Int) = (l1.length : Int) then (slices_Equal_int_int.l0 k l0 l1 (l0.length : Int) 0) else (some false)) = some r := h
 clear h
 by_cases c3 : (l0.length : Int) = (l1.length : Int)
 ·rw [if_pos c3] at H
  have c3b0 : ((l0.length : Int) == (l1.length : Int)) = true := beq_iff_eq.mpr c3
  have c3b1 : ((l0.length : Int) != (l1.length : Int)) = false := bne_eq_false_iff_eq.mpr c3
  have c3b2 : (l0.length == l1.length) = true := by first | simpa using c3 | (simp at c3 ⊢; omega)
  clear c3
  have H' := Aside0.mk H
  clear H
  go_enter Try.func47, Try.ntmps47
  go_wp2
  repeat (go_quiet (fail); try go_wp2)
  go_loopg [13] k (fun kq v13 w' => ∃ (x13_1 : Int), v13 = .int .i64 x13_1 ∧ Aside0 (slices_Equal_int_int.l0 kq l0 l1 (l0.length : Int) x13_1 = some r) ∧ Aside0 (kq ≤ k) ∧ Drawn0 w w')
  case atStart => exact ⟨(0), (by first | rfl | (simp; done) | (simp [*]; done)), H', ⟨Nat.le_refl _⟩, by repeat (first | exact Drawn0.refl _ | apply Drawn0.step)⟩
  case round =>
   clear H'
   try clear c1
   try clear p2
   try clear c3
   try clear c3b0
   try clear c3b1
   try clear c3b2
   obtain ⟨x13_1, rfl, HA, HK1, ⟨m1, rfl⟩⟩ := hrel
   cases gk with
   | zero => exact absurd HA.out (by simp [slices_Equal_int_int.l0])
   | succ k1 =>
    have H := HA.out
    clear HA
    simp only [slices_Equal_int_int.l0] at H
    by_cases c4 : x13_1 < (l0.length : Int)
    ·rw [if_pos c4] at H
     have c4b0 : decide (x13_1 < (l0.length : Int)) = true := decide_eq_true c4
     clear c4
     by_cases c5 : 0 ≤ x13_1
     ·rw [if_pos c5] at H
      have c5b0 : decide (0 ≤ x13_1) = true := decide_eq_true c5
      clear c5
      by_cases c6 : x13_1 < (l0.length : Int)
      ·rw [if_pos c6] at H
       have c6b0 : decide (x13_1 < (l0.length : Int)) = true := decide_eq_true c6
       clear c6
       by_cases c7 : x13_1 < (l1.length : Int)
       ·rw [if_pos c7] at H
        have c7b0 : decide (x13_1 < (l1.length : Int)) = true := decide_eq_true c7
        clear c7
        by_cases c8 : (rd l0 x13_1) = (rd l1 x13_1)
        ·rw [if_pos c8] at H
         have c8b0 : ((rd l0 x13_1) == (rd l1 x13_1)) = true := beq_iff_eq.mpr c8
         have c8b1 : ((rd l0 x13_1) != (rd l1 x13_1)) = false := bne_eq_false_iff_eq.mpr c8
         clear c8
         have H' := Aside0.mk H
         clear H
         have p101 : 0 ≤ (x13_1 : Int) := of_decide_eq_true (by first | (with_reducible assumption) | assumption)
         have q101 : x13_1 < (l0.length : Int) := of_decide_eq_true (by first | (with_reducible assumption) | assumption)
         obtain ⟨ad101, e101, hx101_0⟩ := Kd.at_int HR0.out x13_1 p101 q101
         cases e101
         replace p101 := eq_true p101
         replace q101 := eq_true q101
         have p102 : 0 ≤ (x13_1 : Int) := of_decide_eq_true (by first | (with_reducible assumption) | assumption)
         have q102 : x13_1 < (l1.length : Int) := of_decide_eq_true (by first | (with_reducible assumption) | assumption)
         obtain ⟨ad102, e102, hx102_0⟩ := Kd.at_int HR1.out x13_1 p102 q102
         cases e102
         replace p102 := eq_true p102
         replace q102 := eq_true q102
         go_wp2
         repeat (go_quiet (fail); try go_wp2)
         go_roundg k1
         case measure => have := HK1.out; omega
         case rel => exact ⟨(wrap64 (x13_1 + 1)), (by first | rfl | (simp; done) | (simp [*]; done)), H', ⟨by have := HK1.out; omega⟩, by repeat (first | exact Drawn0.refl _ | apply Drawn0.step)⟩
        ·rw [if_neg c8] at H
         have c8b0 : ((rd l0 x13_1) == (rd l1 x13_1)) = false := beq_eq_false_iff_ne.mpr c8
         have c8b1 : ((rd l0 x13_1) != (rd l1 x13_1)) = true := bne_iff_ne.mpr c8
         obtain rfl := Option.some.inj H
         have p101 : 0 ≤ (x13_1 : Int) := of_decide_eq_true (by first | (with_reducible assumption) | assumption)
         have q101 : x13_1 < (l0.length : Int) := of_decide_eq_true (by first | (with_reducible assumption) | assumption)
         obtain ⟨ad101, e101, hx101_0⟩ := Kd.at_int HR0.out x13_1 p101 q101
         cases e101
         replace p101 := eq_true p101
         replace q101 := eq_true q101
         have p102 : 0 ≤ (x13_1 : Int) := of_decide_eq_true (by first | (with_reducible assumption) | assumption)
         have q102 : x13_1 < (l1.length : Int) := of_decide_eq_true (by first | (with_reducible assumption) | assumption)
         obtain ⟨ad102, e102, hx102_0⟩ := Kd.at_int HR1.out x13_1 p102 q102
         cases e102
         replace p102 := eq_true p102
         replace q102 := eq_true q102
         go_wp2
         repeat (go_quiet (fail); try go_wp2)
         go_ret
         exact ⟨by first | rfl | (simp; done) | (simp [*]; done), by repeat (first | exact Drawn0.refl _ | apply Drawn0.step)⟩
       ·rw [if_neg c7] at H
        exact absurd H (by simp)
      ·rw [if_neg c6] at H
       exact absurd H (by simp)
     ·rw [if_neg c5] at H
      exact absurd H (by simp)
    ·rw [if_neg c4] at H
     have c4b0 : decide (x13_1 < (l0.length : Int)) = false := decide_eq_false c4
     clear c4
     obtain rfl := Option.some.inj H
     go_wp2
     repeat (go_quiet (fail); try go_wp2)
     go_ret
     exact ⟨by first | rfl | (simp; done) | (simp [*]; done), by repeat (first | exact Drawn0.refl _ | apply Drawn0.step)⟩
 ·rw [if_neg c3] at H
  have c3b0 : ((l0.length : Int) == (l1.length : Int)) = false := beq_eq_false_iff_ne.mpr c3
  have c3b1 : ((l0.length : Int) != (l1.length : Int)) = true := bne_iff_ne.mpr c3
  have c3b2 : (l0.length == l1.length) = false := by first | simpa using c3 | (simp at c3 ⊢; omega)
  obtain rfl := Option.some.inj H
  go_enter Try.func47, Try.ntmps47
  go_wp2
  repeat (go_quiet (fail); try go_wp2)
  go_ret
  exact ⟨by first | rfl | (simp; done) | (simp [*]; done), by repeat (first | exact Drawn0.refl _ | apply Drawn0.step)⟩

end Go.Proofs.Ytjndadjhhknggaa.Q
end
