/- Points, and rows of them. -/
import Derived.Test.YtekaopahienmgaaSxW
import Derived.Test.YtekaopahienmgaaP1
import Derived.Test.YtekaopahienmgaaProg
set_option linter.unusedVariables false
set_option linter.unusedSimpArgs false
namespace Cr
open Go Sx Stb
open Go.Proofs.Try
@[simp] theorem delLs_nil (H : Heap) : delLs H [] = H := rfl
structure Pt where
  id : Int
  x : Int
  y : Int
  data : ByteArray
  deriving Inhabited, DecidableEq
@[reducible] def ptC (p : Pt) : List Value := [.int .i64 p.id, .int .u32 p.x, .int .u32 p.y, .string p.data]
abbrev ptV (p : Pt) : Value := .agg { toList := [.int .i64 p.id, .int .u32 p.x, .int .u32 p.y, .string p.data] }
abbrev tPt : Nat := 28
abbrev pts (l : List Pt) : List (List Value) := l.map ptC
abbrev vi (n : Int) : Value := .int .i64 n
/-- A comparing function. -/
def CmpOK (g : Nat) (cf : Pt → Pt → Int) : Prop := ∀ (p q : Pt) (H : Heap) (R : Ending → Heap → Prop), R (.returned (vi (cf p q))) H → Meets prog g [ptV p, ptV q] H R
def ltc (cf : Pt → Pt → Int) (p q : Pt) : Bool := decide (cf p q < 0)
theorem ptC_one (p : Pt) : ∀ x ∈ ptC p, one x = true := by intro x hx; simp at hx; rcases hx with rfl | rfl | rfl | rfl <;> rfl
theorem pr_get {H : Heap} {a : Option Addr} {n c : Nat} {l : List Pt} (h : SliceAt H (.slice a n c) 4 (pts l)) {i : Nat} {p : Pt} (he : l[i]? = some p) : ∃ A, a = some A ∧ H.has (A.add (i * 4)) (ptC p) := by
  obtain ⟨A, h1, _, h2⟩ := slice_get h (i := i) (e := ptC p) (by simp [pts, he])
  exact ⟨A, h1, h2⟩
theorem pr_put {H : Heap} {A : Addr} {n c ty : Nat} {l : List Pt} (h : RowAt H (.slice (some A) n c) ty 4 (pts l)) {i : Nat} (hi : i < n) (p : Pt) :
    ∃ cl, (H (A.add (i * 4)).block = some (.cells cl ty (0, 0)) ∧ (A.add (i * 4)).spot = none ∧ (A.add (i * 4)).off + 4 ≤ cl.size) ∧
      RowAt (H.upd (A.add (i * 4)).block (.cells (writeCells cl (A.add (i * 4)).off (ptC p)) ty (0, 0))) (.slice (some A) n c) ty 4 (pts (l.set i p)) ∧
      Mod (.slice (some A) n c) H (H.upd (A.add (i * 4)).block (.cells (writeCells cl (A.add (i * 4)).off (ptC p)) ty (0, 0))) := by
  obtain ⟨A', e, cl, h1, h2, h3⟩ := row_store h hi (cs := ptC p) rfl (ptC_one p)
  cases e
  refine ⟨cl, h1, ?_, h3⟩
  rw [pts, List.map_set]
  exact h2
theorem keep_same (G H Hl : Heap) : Keep G H Hl Hl := fun _ _ h _ => h
end Cr
