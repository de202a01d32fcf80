/- Usage: what is free, what is needed. -/
import Derived.Test.YtjlnkihkabljbaaU1
set_option linter.unusedVariables false
set_option linter.unusedSimpArgs false
namespace Go.Proofs.Ytjlnkihkabljbaa.Us
open Go Sx Go.RowKit Go.ChangeShapes Go.WideShapes Lay
open Go.Proofs.Try
set_option maxRecDepth 100000
def h22 : Hints := { loops := [(5, ⟨[3, 4, 5, 15], [.f 16 (.int .i64), .row 7 3 1], [.keep 3, .keep 4, .keep 5]⟩)] }
def h23 : Hints := { loops := [(3, ⟨[2, 3, 4, 13], [.f 14 (.int .i64), .row 7 3 1], [.keep 3, .keep 4]⟩)] }
def h24 : Hints := { loops := [(3, ⟨[2, 3, 10], [.f 11 (.int .i64), .f 5 (.int .i64)], [.keep 2, .keep 3]⟩)] }
def h6 : Hints := { eqs := [37], cuts := [(7, ⟨[2, 3, 4, 5], [.f 9 (.int .i64), .f 10 (.int .i64)], [.keep 4, .keep 5]⟩), (10, ⟨[2, 3, 4, 5, 9, 10, 11], [], [.keep 4, .keep 5, .box 11 37 [.ints .i64 32]]⟩)] }
def nf_f19 (R : Ending → Heap → Prop) (H : Heap) : Prop :=
  Meets prog (22 : Nat)
  [Value.agg { toList := [Value.int IntKind.i64 (6 : Int), Value.int IntKind.i64 (4 : Int)] },
    Value.agg
      {
        toList :=
          [Value.int IntKind.i64 (0 : Int), Value.int IntKind.i64 (0 : Int), Value.int IntKind.i64 (0 : Int),
            Value.int IntKind.i64 (0 : Int), Value.int IntKind.i64 (0 : Int), Value.int IntKind.i64 (0 : Int),
            Value.int IntKind.i64 (0 : Int), Value.int IntKind.i64 (0 : Int), Value.int IntKind.i64 (0 : Int),
            Value.int IntKind.i64 (0 : Int), Value.int IntKind.i64 (0 : Int), Value.int IntKind.i64 (0 : Int),
            Value.int IntKind.i64 (0 : Int), Value.int IntKind.i64 (0 : Int), Value.int IntKind.i64 (0 : Int),
            Value.int IntKind.i64 (0 : Int), Value.int IntKind.i64 (0 : Int), Value.int IntKind.i64 (0 : Int),
            Value.int IntKind.i64 (0 : Int), Value.int IntKind.i64 (0 : Int), Value.int IntKind.i64 (0 : Int),
            Value.int IntKind.i64 (0 : Int), Value.int IntKind.i64 (0 : Int), Value.int IntKind.i64 (0 : Int),
            Value.int IntKind.i64 (0 : Int), Value.int IntKind.i64 (0 : Int), Value.int IntKind.i64 (0 : Int),
            Value.int IntKind.i64 (0 : Int), Value.int IntKind.i64 (0 : Int), Value.int IntKind.i64 (0 : Int),
            Value.int IntKind.i64 (0 : Int), Value.int IntKind.i64 (0 : Int), Value.int IntKind.i64 (0 : Int),
            Value.int IntKind.i64 (0 : Int), Value.int IntKind.i64 (0 : Int), Value.int IntKind.i64 (0 : Int),
            Value.int IntKind.i64 (0 : Int), Value.int IntKind.i64 (0 : Int), Value.int IntKind.i64 (0 : Int),
            Value.int IntKind.i64 (0 : Int), Value.int IntKind.i64 (0 : Int), Value.int IntKind.i64 (0 : Int),
            Value.int IntKind.i64 (0 : Int), Value.int IntKind.i64 (0 : Int), Value.int IntKind.i64 (0 : Int),
            Value.int IntKind.i64 (0 : Int), Value.int IntKind.i64 (0 : Int), Value.int IntKind.i64 (0 : Int),
            Value.int IntKind.i64 (0 : Int), Value.int IntKind.i64 (0 : Int), Value.int IntKind.i64 (0 : Int),
            Value.int IntKind.i64 (0 : Int), Value.int IntKind.i64 (0 : Int), Value.int IntKind.i64 (0 : Int),
            Value.int IntKind.i64 (0 : Int), Value.int IntKind.i64 (0 : Int), Value.int IntKind.i64 (0 : Int),
            Value.int IntKind.i64 (0 : Int), Value.int IntKind.i64 (0 : Int), Value.int IntKind.i64 (0 : Int),
            Value.int IntKind.i64 (0 : Int), Value.int IntKind.i64 (0 : Int), Value.int IntKind.i64 (0 : Int),
            Value.int IntKind.i64 (0 : Int), Value.int IntKind.i64 (0 : Int), Value.int IntKind.i64 (0 : Int),
            Value.int IntKind.i64 (0 : Int), Value.int IntKind.i64 (0 : Int), Value.int IntKind.i64 (0 : Int),
            Value.int IntKind.i64 (0 : Int), Value.int IntKind.i64 (0 : Int), Value.int IntKind.i64 (0 : Int),
            Value.int IntKind.i64 (0 : Int), Value.int IntKind.i64 (0 : Int), Value.int IntKind.i64 (0 : Int),
            Value.int IntKind.i64 (0 : Int), Value.int IntKind.i64 (0 : Int), Value.int IntKind.i64 (0 : Int),
            Value.int IntKind.i64 (0 : Int), Value.int IntKind.i64 (0 : Int), Value.int IntKind.i64 (0 : Int),
            Value.int IntKind.i64 (0 : Int), Value.int IntKind.i64 (0 : Int), Value.int IntKind.i64 (0 : Int),
            Value.int IntKind.i64 (0 : Int), Value.int IntKind.i64 (0 : Int), Value.int IntKind.i64 (0 : Int),
            Value.int IntKind.i64 (0 : Int), Value.int IntKind.i64 (0 : Int), Value.int IntKind.i64 (0 : Int),
            Value.int IntKind.i64 (0 : Int), Value.int IntKind.i64 (0 : Int), Value.int IntKind.i64 (0 : Int),
            Value.int IntKind.i64 (0 : Int), Value.int IntKind.i64 (0 : Int), Value.int IntKind.i64 (0 : Int),
            Value.int IntKind.i64 (0 : Int), Value.int IntKind.i64 (0 : Int), Value.int IntKind.i64 (0 : Int),
            Value.int IntKind.i64 (0 : Int), Value.int IntKind.i64 (0 : Int), Value.int IntKind.i64 (0 : Int),
            Value.int IntKind.i64 (0 : Int), Value.int IntKind.i64 (0 : Int), Value.int IntKind.i64 (0 : Int),
            Value.int IntKind.i64 (0 : Int), Value.int IntKind.i64 (0 : Int), Value.int IntKind.i64 (0 : Int),
            Value.int IntKind.i64 (0 : Int), Value.int IntKind.i64 (0 : Int), Value.int IntKind.i64 (0 : Int),
            Value.int IntKind.i64 (0 : Int), Value.int IntKind.i64 (0 : Int), Value.int IntKind.i64 (0 : Int),
            Value.int IntKind.i64 (0 : Int), Value.int IntKind.i64 (0 : Int), Value.int IntKind.i64 (0 : Int),
            Value.int IntKind.i64 (0 : Int), Value.int IntKind.i64 (0 : Int), Value.int IntKind.i64 (0 : Int),
            Value.int IntKind.i64 (0 : Int), Value.int IntKind.i64 (0 : Int), Value.int IntKind.i64 (0 : Int),
            Value.int IntKind.i64 (0 : Int), Value.int IntKind.i64 (0 : Int), Value.int IntKind.i64 (0 : Int),
            Value.int IntKind.i64 (0 : Int), Value.int IntKind.i64 (0 : Int), Value.int IntKind.i64 (0 : Int),
            Value.int IntKind.i64 (0 : Int), Value.int IntKind.i64 (0 : Int), Value.int IntKind.i64 (0 : Int),
            Value.int IntKind.i64 (0 : Int), Value.int IntKind.i64 (0 : Int), Value.int IntKind.i64 (0 : Int),
            Value.int IntKind.i64 (0 : Int), Value.int IntKind.i64 (0 : Int), Value.int IntKind.i64 (0 : Int),
            Value.int IntKind.i64 (0 : Int), Value.int IntKind.i64 (0 : Int), Value.int IntKind.i64 (0 : Int),
            Value.int IntKind.i64 (0 : Int), Value.int IntKind.i64 (0 : Int), Value.int IntKind.i64 (0 : Int),
            Value.int IntKind.i64 (0 : Int), Value.int IntKind.i64 (0 : Int), Value.int IntKind.i64 (0 : Int),
            Value.int IntKind.i64 (0 : Int), Value.int IntKind.i64 (0 : Int), Value.int IntKind.i64 (0 : Int),
            Value.int IntKind.i64 (0 : Int), Value.int IntKind.i64 (0 : Int), Value.int IntKind.i64 (0 : Int),
            Value.int IntKind.i64 (0 : Int), Value.int IntKind.i64 (0 : Int), Value.int IntKind.i64 (0 : Int),
            Value.int IntKind.i64 (0 : Int), Value.int IntKind.i64 (0 : Int), Value.int IntKind.i64 (0 : Int),
            Value.int IntKind.i64 (0 : Int), Value.int IntKind.i64 (0 : Int), Value.int IntKind.i64 (0 : Int),
            Value.int IntKind.i64 (0 : Int), Value.int IntKind.i64 (0 : Int), Value.int IntKind.i64 (0 : Int),
            Value.int IntKind.i64 (0 : Int), Value.int IntKind.i64 (0 : Int), Value.int IntKind.i64 (0 : Int),
            Value.int IntKind.i64 (0 : Int), Value.int IntKind.i64 (0 : Int), Value.int IntKind.i64 (0 : Int),
            Value.int IntKind.i64 (0 : Int), Value.int IntKind.i64 (0 : Int), Value.int IntKind.i64 (0 : Int),
            Value.int IntKind.i64 (0 : Int), Value.int IntKind.i64 (0 : Int), Value.int IntKind.i64 (0 : Int),
            Value.int IntKind.i64 (0 : Int), Value.int IntKind.i64 (0 : Int), Value.int IntKind.i64 (0 : Int),
            Value.int IntKind.i64 (0 : Int), Value.int IntKind.i64 (0 : Int), Value.int IntKind.i64 (0 : Int),
            Value.int IntKind.i64 (0 : Int), Value.int IntKind.i64 (0 : Int), Value.int IntKind.i64 (0 : Int),
            Value.int IntKind.i64 (0 : Int), Value.int IntKind.i64 (0 : Int), Value.int IntKind.i64 (0 : Int),
            Value.int IntKind.i64 (0 : Int), Value.int IntKind.i64 (0 : Int), Value.int IntKind.i64 (0 : Int),
            Value.int IntKind.i64 (0 : Int), Value.int IntKind.i64 (0 : Int), Value.int IntKind.i64 (0 : Int),
            Value.int IntKind.i64 (0 : Int), Value.int IntKind.i64 (0 : Int), Value.int IntKind.i64 (0 : Int),
            Value.int IntKind.i64 (0 : Int), Value.int IntKind.i64 (0 : Int), Value.int IntKind.i64 (0 : Int),
            Value.int IntKind.i64 (0 : Int), Value.int IntKind.i64 (0 : Int), Value.int IntKind.i64 (0 : Int),
            Value.int IntKind.i64 (0 : Int), Value.int IntKind.i64 (0 : Int), Value.int IntKind.i64 (0 : Int),
            Value.int IntKind.i64 (0 : Int), Value.int IntKind.i64 (0 : Int), Value.int IntKind.i64 (0 : Int),
            Value.int IntKind.i64 (0 : Int), Value.int IntKind.i64 (0 : Int), Value.int IntKind.i64 (0 : Int),
            Value.int IntKind.i64 (0 : Int), Value.int IntKind.i64 (0 : Int), Value.int IntKind.i64 (0 : Int),
            Value.int IntKind.i64 (0 : Int), Value.int IntKind.i64 (0 : Int), Value.int IntKind.i64 (0 : Int),
            Value.int IntKind.i64 (0 : Int), Value.int IntKind.i64 (0 : Int), Value.int IntKind.i64 (0 : Int),
            Value.int IntKind.i64 (0 : Int), Value.int IntKind.i64 (0 : Int), Value.int IntKind.i64 (0 : Int),
            Value.int IntKind.i64 (0 : Int), Value.int IntKind.i64 (0 : Int), Value.int IntKind.i64 (0 : Int),
            Value.int IntKind.i64 (0 : Int), Value.int IntKind.i64 (0 : Int), Value.int IntKind.i64 (0 : Int),
            Value.int IntKind.i64 (0 : Int), Value.int IntKind.i64 (0 : Int), Value.int IntKind.i64 (0 : Int),
            Value.int IntKind.i64 (0 : Int), Value.int IntKind.i64 (0 : Int), Value.int IntKind.i64 (0 : Int),
            Value.int IntKind.i64 (0 : Int), Value.int IntKind.i64 (0 : Int), Value.int IntKind.i64 (0 : Int),
            Value.int IntKind.i64 (0 : Int), Value.int IntKind.i64 (0 : Int), Value.int IntKind.i64 (0 : Int),
            Value.int IntKind.i64 (0 : Int), Value.int IntKind.i64 (0 : Int), Value.int IntKind.i64 (0 : Int),
            Value.int IntKind.i64 (0 : Int), Value.int IntKind.i64 (0 : Int), Value.int IntKind.i64 (0 : Int),
            Value.int IntKind.i64 (0 : Int), Value.int IntKind.i64 (0 : Int), Value.int IntKind.i64 (0 : Int),
            Value.int IntKind.i64 (0 : Int), Value.int IntKind.i64 (0 : Int), Value.int IntKind.i64 (0 : Int),
            Value.int IntKind.i64 (0 : Int)] },
    Value.agg
      { toList := [Value.int IntKind.i64 (0 : Int), Value.int IntKind.i64 (0 : Int), Value.int IntKind.i64 (1 : Int)] }]
  H fun (e : Ending) (H' : Nat → Option Obj) ↦
  ∃ (a : Option Addr),
    ∃ (n : Nat),
      ∃ (c : Nat),
        e = Ending.returned (Value.slice a n c) ∧ R (Ending.returned (Value.bool ((↑n : Int) == (4 : Int)))) H'
theorem vc_f19 (R : Ending → Heap → Prop) (H : Heap) : vcFun prog { } f19 [] R H = nf_f19 R H := by kernel_rfl
def nf_f22 (s : Int) (z : Int) (a : Int) (b : Int) (c : Int) (m : List
  Int) (R : Ending → Heap → Prop) (H : Heap) : Prop :=
  Meets prog (15 : Nat) [Value.agg { toList := [Value.int IntKind.i64 s, Value.int IntKind.i64 z] }] H
  fun (e : Ending) (H' : Nat → Option Obj) ↦
  ∃ (n : Int),
    e = Ending.returned (Value.int IntKind.i64 n) ∧
      Br (n != (0 : Int)) (R (Ending.returned (Value.slice none (0 : Nat) (0 : Nat))) H')
        (Meets prog (20 : Nat)
          [Value.agg { toList := [Value.int IntKind.i64 s, Value.int IntKind.i64 z] },
            Value.agg { toList := List.append (List.map (Value.int IntKind.i64) m) [] }]
          H' fun (e : Ending) (H' : Nat → Option Obj) ↦
          ∃ (xs : List Int),
            List.length xs = (32 : Nat) ∧
              e =
                  Ending.returned
                    (Value.agg { toList := List.append (List.map (Value.int IntKind.i64) xs) (flatD []) }) ∧
                (0 : Nat) = (0 : Nat) ∧
                  (0 : Nat) = (0 : Nat) ∧
                    (0 : Nat) = (0 : Nat) ∧
                      xs = xs ∧
                        s = s ∧
                          z = z ∧
                            m = m ∧
                              a = a ∧
                                b = b ∧
                                  c = c ∧
                                    LoopP
                                      (fun
                                          (K :
                                            (Int × List (List Value) × PUnit) × PUnit × PUnit × PUnit × PUnit →
                                              (Nat → Option Obj) → Prop)
                                          (p : (Int × List (List Value) × PUnit) × PUnit × PUnit × PUnit × PUnit)
                                          (H : Nat → Option Obj) ↦
                                        Br (decide (p.fst.fst < (32 : Int)))
                                          (((0 : Int) ≤ p.fst.fst ∧ p.fst.fst < (↑(32 : Nat) : Int)) ∧
                                            Br (decide (p.fst.fst < s))
                                              (Br (List.getD xs (Int.toNat p.fst.fst) (0 : Int) == (0 : Int))
                                                (Br (p.fst.fst != a)
                                                  (Br (p.fst.fst != c)
                                                    (List.length
                                                            (List.append p.fst.snd.fst
                                                              [[Value.int IntKind.i64 p.fst.fst]]) *
                                                          (8 : Nat) ≤
                                                        (140737488355328 : Nat) ∧
                                                      (0 : Nat) = (0 : Nat) ∧
                                                        (0 : Nat) = (0 : Nat) ∧
                                                          (0 : Nat) = (0 : Nat) ∧
                                                            xs = xs ∧
                                                              s = s ∧
                                                                z = z ∧
                                                                  m = m ∧
                                                                    a = a ∧
                                                                      b = b ∧
                                                                        c = c ∧
                                                                          K
                                                                            ((IntKind.wrap IntKind.i64
                                                                                  (p.fst.fst + (1 : Int)),
                                                                                List.append p.fst.snd.fst
                                                                                  [[Value.int IntKind.i64 p.fst.fst]],
                                                                                PUnit.unit),
                                                                              PUnit.unit, PUnit.unit, PUnit.unit,
                                                                              PUnit.unit)
                                                                            H)
                                                    ((0 : Nat) = (0 : Nat) ∧
                                                      (0 : Nat) = (0 : Nat) ∧
                                                        (0 : Nat) = (0 : Nat) ∧
                                                          xs = xs ∧
                                                            s = s ∧
                                                              z = z ∧
                                                                m = m ∧
                                                                  a = a ∧
                                                                    b = b ∧
                                                                      c = c ∧
                                                                        K
                                                                          ((IntKind.wrap IntKind.i64
                                                                                (p.fst.fst + (1 : Int)),
                                                                              p.fst.snd.fst, PUnit.unit),
                                                                            PUnit.unit, PUnit.unit, PUnit.unit,
                                                                            PUnit.unit)
                                                                          H))
                                                  ((0 : Nat) = (0 : Nat) ∧
                                                    (0 : Nat) = (0 : Nat) ∧
                                                      (0 : Nat) = (0 : Nat) ∧
                                                        xs = xs ∧
                                                          s = s ∧
                                                            z = z ∧
                                                              m = m ∧
                                                                a = a ∧
                                                                  b = b ∧
                                                                    c = c ∧
                                                                      K
                                                                        ((IntKind.wrap IntKind.i64
                                                                              (p.fst.fst + (1 : Int)),
                                                                            p.fst.snd.fst, PUnit.unit),
                                                                          PUnit.unit, PUnit.unit, PUnit.unit,
                                                                          PUnit.unit)
                                                                        H))
                                                ((0 : Nat) = (0 : Nat) ∧
                                                  (0 : Nat) = (0 : Nat) ∧
                                                    (0 : Nat) = (0 : Nat) ∧
                                                      xs = xs ∧
                                                        s = s ∧
                                                          z = z ∧
                                                            m = m ∧
                                                              a = a ∧
                                                                b = b ∧
                                                                  c = c ∧
                                                                    K
                                                                      ((IntKind.wrap IntKind.i64
                                                                            (p.fst.fst + (1 : Int)),
                                                                          p.fst.snd.fst, PUnit.unit),
                                                                        PUnit.unit, PUnit.unit, PUnit.unit, PUnit.unit)
                                                                      H))
                                              ((0 : Nat) = (0 : Nat) ∧
                                                (0 : Nat) = (0 : Nat) ∧
                                                  (0 : Nat) = (0 : Nat) ∧
                                                    xs = xs ∧
                                                      s = s ∧
                                                        z = z ∧
                                                          m = m ∧
                                                            a = a ∧
                                                              b = b ∧
                                                                c = c ∧
                                                                  K
                                                                    ((IntKind.wrap IntKind.i64 (p.fst.fst + (1 : Int)),
                                                                        p.fst.snd.fst, PUnit.unit),
                                                                      PUnit.unit, PUnit.unit, PUnit.unit, PUnit.unit)
                                                                    H))
                                          (∀ (v : Value) (H' : Nat → Option Obj),
                                            H ≤ H' →
                                              (∀ (b : Nat), blockOf v = some b → H b = none) →
                                                (∀ (b : Nat) (o : Obj),
                                                    H' b = some o → H b = some o ∨ blockOf v = some b) →
                                                  RowAt H' v (3 : Nat) (1 : Nat) p.fst.snd.fst →
                                                    R (Ending.returned v) H'))
                                      (((0 : Int), [], PUnit.unit), PUnit.unit, PUnit.unit, PUnit.unit, PUnit.unit) H')
theorem vc_f22 (s : Int) (z : Int) (a : Int) (b : Int) (c : Int) (m : List
  Int) (R : Ending →
  Heap →
    Prop) (H : Heap) : vcFun prog h22 f22
  [SV.agg [Seg.c (SC.v (Value.int IntKind.i64 s)), Seg.c (SC.v (Value.int IntKind.i64 z))],
    SV.agg [Seg.ints IntKind.i64 (256 : Nat) m],
    SV.agg
      [Seg.c (SC.v (Value.int IntKind.i64 a)), Seg.c (SC.v (Value.int IntKind.i64 b)),
        Seg.c (SC.v (Value.int IntKind.i64 c))]]
  R H = nf_f22 s z a b c m R H := by kernel_rfl
def nf_f23 (s : Int) (z : Int) (g : Int) (m : List Int) (R : Ending → Heap → Prop) (H : Heap) : Prop :=
  g = g ∧
  (0 : Nat) = (0 : Nat) ∧
    (0 : Nat) = (0 : Nat) ∧
      m = m ∧
        s = s ∧
          z = z ∧
            m = m ∧
              LoopP
                (fun (K : (Int × List (List Value) × PUnit) × PUnit × PUnit × PUnit → (Nat → Option Obj) → Prop)
                    (p : (Int × List (List Value) × PUnit) × PUnit × PUnit × PUnit) (H : Nat → Option Obj) ↦
                  Br (decide (p.fst.fst < (256 : Int)))
                    (((0 : Int) ≤ p.fst.fst ∧ p.fst.fst < (↑(256 : Nat) : Int)) ∧
                      Meets prog (14 : Nat)
                        [Value.agg { toList := [Value.int IntKind.i64 s, Value.int IntKind.i64 z] },
                          Value.int IntKind.i64 (List.getD m (Int.toNat p.fst.fst) (0 : Int))]
                        H fun (e : Ending) (H' : Nat → Option Obj) ↦
                        ∃ (n : Int),
                          ∃ (n_1 : Int),
                            ∃ (b : Bool),
                              e =
                                  Ending.returned
                                    (Value.tuple
                                      {
                                        toList :=
                                          [Value.int IntKind.i64 n, Value.int IntKind.i64 n_1, Value.bool b] }) ∧
                                Br b
                                  (Br (n == g)
                                    (Br (decide (p.fst.fst > (0 : Int)))
                                      (List.length (List.append p.fst.snd.fst [[Value.int IntKind.i64 p.fst.fst]]) *
                                            (8 : Nat) ≤
                                          (140737488355328 : Nat) ∧
                                        g = g ∧
                                          (0 : Nat) = (0 : Nat) ∧
                                            (0 : Nat) = (0 : Nat) ∧
                                              m = m ∧
                                                s = s ∧
                                                  z = z ∧
                                                    m = m ∧
                                                      K
                                                        ((IntKind.wrap IntKind.i64 (p.fst.fst + (1 : Int)),
                                                            List.append p.fst.snd.fst
                                                              [[Value.int IntKind.i64 p.fst.fst]],
                                                            PUnit.unit),
                                                          PUnit.unit, PUnit.unit, PUnit.unit)
                                                        H')
                                      (g = g ∧
                                        (0 : Nat) = (0 : Nat) ∧
                                          (0 : Nat) = (0 : Nat) ∧
                                            m = m ∧
                                              s = s ∧
                                                z = z ∧
                                                  m = m ∧
                                                    K
                                                      ((IntKind.wrap IntKind.i64 (p.fst.fst + (1 : Int)), p.fst.snd.fst,
                                                          PUnit.unit),
                                                        PUnit.unit, PUnit.unit, PUnit.unit)
                                                      H'))
                                    (g = g ∧
                                      (0 : Nat) = (0 : Nat) ∧
                                        (0 : Nat) = (0 : Nat) ∧
                                          m = m ∧
                                            s = s ∧
                                              z = z ∧
                                                m = m ∧
                                                  K
                                                    ((IntKind.wrap IntKind.i64 (p.fst.fst + (1 : Int)), p.fst.snd.fst,
                                                        PUnit.unit),
                                                      PUnit.unit, PUnit.unit, PUnit.unit)
                                                    H'))
                                  (g = g ∧
                                    (0 : Nat) = (0 : Nat) ∧
                                      (0 : Nat) = (0 : Nat) ∧
                                        m = m ∧
                                          s = s ∧
                                            z = z ∧
                                              m = m ∧
                                                K
                                                  ((IntKind.wrap IntKind.i64 (p.fst.fst + (1 : Int)), p.fst.snd.fst,
                                                      PUnit.unit),
                                                    PUnit.unit, PUnit.unit, PUnit.unit)
                                                  H'))
                    (∀ (v : Value) (H' : Nat → Option Obj),
                      H ≤ H' →
                        (∀ (b : Nat), blockOf v = some b → H b = none) →
                          (∀ (b : Nat) (o : Obj), H' b = some o → H b = some o ∨ blockOf v = some b) →
                            RowAt H' v (3 : Nat) (1 : Nat) p.fst.snd.fst → R (Ending.returned v) H'))
                (((0 : Int), [], PUnit.unit), PUnit.unit, PUnit.unit, PUnit.unit) H
theorem vc_f23 (s : Int) (z : Int) (g : Int) (m : List
  Int) (R : Ending →
  Heap →
    Prop) (H : Heap) : vcFun prog h23 f23
  [SV.agg [Seg.c (SC.v (Value.int IntKind.i64 s)), Seg.c (SC.v (Value.int IntKind.i64 z))],
    SV.agg [Seg.ints IntKind.i64 (256 : Nat) m], SV.c (SC.v (Value.int IntKind.i64 g))]
  R H = nf_f23 s z g m R H := by kernel_rfl
def nf_f24 (s : Int) (z : Int) (m : List Int) (R : Ending → Heap → Prop) (H : Heap) : Prop :=
  Meets prog (20 : Nat)
  [Value.agg { toList := [Value.int IntKind.i64 s, Value.int IntKind.i64 z] },
    Value.agg { toList := List.append (List.map (Value.int IntKind.i64) m) [] }]
  H fun (e : Ending) (H' : Nat → Option Obj) ↦
  ∃ (xs : List Int),
    List.length xs = (32 : Nat) ∧
      e = Ending.returned (Value.agg { toList := List.append (List.map (Value.int IntKind.i64) xs) (flatD []) }) ∧
        (0 : Nat) = (0 : Nat) ∧
          (0 : Nat) = (0 : Nat) ∧
            xs = xs ∧
              s = s ∧
                z = z ∧
                  m = m ∧
                    LoopP
                      (fun (K : (Int × Int × PUnit) × PUnit × PUnit × PUnit → (Nat → Option Obj) → Prop)
                          (p : (Int × Int × PUnit) × PUnit × PUnit × PUnit) (H : Nat → Option Obj) ↦
                        Br (decide (p.fst.fst < (32 : Int)))
                          (((0 : Int) ≤ p.fst.fst ∧ p.fst.fst < (↑(32 : Nat) : Int)) ∧
                            (0 : Nat) = (0 : Nat) ∧
                              (0 : Nat) = (0 : Nat) ∧
                                xs = xs ∧
                                  s = s ∧
                                    z = z ∧
                                      m = m ∧
                                        K
                                          ((IntKind.wrap IntKind.i64 (p.fst.fst + (1 : Int)),
                                              IntKind.wrap IntKind.i64
                                                (p.fst.snd.fst + List.getD xs (Int.toNat p.fst.fst) (0 : Int)),
                                              PUnit.unit),
                                            PUnit.unit, PUnit.unit, PUnit.unit)
                                          H)
                          (R (Ending.returned (Value.int IntKind.i64 p.fst.snd.fst)) H))
                      (((0 : Int), (0 : Int), PUnit.unit), PUnit.unit, PUnit.unit, PUnit.unit) H'
theorem vc_f24 (s : Int) (z : Int) (m : List
  Int) (R : Ending →
  Heap →
    Prop) (H : Heap) : vcFun prog h24 f24
  [SV.agg [Seg.c (SC.v (Value.int IntKind.i64 s)), Seg.c (SC.v (Value.int IntKind.i64 z))],
    SV.agg [Seg.ints IntKind.i64 (256 : Nat) m]]
  R H = nf_f24 s z m R H := by kernel_rfl
def nf_f6 (s : Int) (z : Int) (id : Int) (t : Int) (m : List Int) (R : Ending → Heap → Prop) (H : Heap) : Prop :=
  Meets prog (19 : Nat) [] H fun (e : Ending) (H' : Nat → Option Obj) ↦
  ∃ (b : Bool),
    e = Ending.returned (Value.bool b) ∧
      Br (!b) (R (Ending.returned (Value.bool false)) H')
        (Br (decide (s < (6 : Int))) (R (Ending.returned (Value.bool true)) H')
          (Br (decide (s > (32 : Int))) (R (Ending.returned (Value.bool true)) H')
            (Br (decide (z < (4 : Int))) (R (Ending.returned (Value.bool true)) H')
              (Br (decide (z > (32 : Int))) (R (Ending.returned (Value.bool true)) H')
                (Br (id == (0 : Int)) (R (Ending.returned (Value.bool true)) H')
                  (CutP
                    (fun (I : (Int × Int × PUnit) × PUnit × PUnit × PUnit → (Nat → Option Obj) → Prop) ↦
                      IntKind.wrap IntKind.i64 (s * z) ≠ (0 : Int) ∧
                        IntKind.wrap IntKind.i64 (s * z) ≠ (0 : Int) ∧
                          id = id ∧
                            t = t ∧
                              (0 : Nat) = (0 : Nat) ∧
                                (0 : Nat) = (0 : Nat) ∧
                                  s = s ∧
                                    z = z ∧
                                      m = m ∧
                                        I
                                          ((IntKind.wrap IntKind.i64 (s * z),
                                              IntKind.wrap IntKind.i64
                                                ((9 : Int) +
                                                  Int.tmod
                                                    (IntKind.wrap IntKind.i64
                                                      (Int.tmod t (IntKind.wrap IntKind.i64 (s * z)) +
                                                        IntKind.wrap IntKind.i64 (s * z)))
                                                    (IntKind.wrap IntKind.i64 (s * z))),
                                              PUnit.unit),
                                            PUnit.unit, PUnit.unit, PUnit.unit)
                                          H')
                    fun (p : (Int × Int × PUnit) × PUnit × PUnit × PUnit) (H : Nat → Option Obj) ↦
                    Meets prog (20 : Nat)
                      [Value.agg { toList := [Value.int IntKind.i64 s, Value.int IntKind.i64 z] },
                        Value.agg { toList := List.append (List.map (Value.int IntKind.i64) m) [] }]
                      H fun (e : Ending) (H' : Nat → Option Obj) ↦
                      ∃ (xs : List Int),
                        List.length xs = (32 : Nat) ∧
                          e =
                              Ending.returned
                                (Value.agg { toList := List.append (List.map (Value.int IntKind.i64) xs) (flatD []) }) ∧
                            CutP
                              (fun
                                  (I : PUnit × PUnit × PUnit × (List Int × PUnit) × PUnit → (Nat → Option Obj) → Prop) ↦
                                ((0 : Int) ≤ id ∧ id < (↑(256 : Nat) : Int)) ∧
                                  Br (decide (List.getD m (Int.toNat id) (0 : Int) ≥ (9 : Int)))
                                    (((0 : Int) ≤ id ∧ id < (↑(256 : Nat) : Int)) ∧
                                      Br
                                        (decide
                                          (List.getD m (Int.toNat id) (0 : Int) <
                                            IntKind.wrap IntKind.i64 ((9 : Int) + p.fst.fst)))
                                        (((0 : Int) ≤ id ∧ id < (↑(256 : Nat) : Int)) ∧
                                          z ≠ (0 : Int) ∧
                                            ((0 : Int) ≤
                                                  IntKind.wrap IntKind.i64
                                                    (Int.tdiv
                                                      (IntKind.wrap IntKind.i64
                                                        (List.getD m (Int.toNat id) (0 : Int) - (9 : Int)))
                                                      z) ∧
                                                IntKind.wrap IntKind.i64
                                                    (Int.tdiv
                                                      (IntKind.wrap IntKind.i64
                                                        (List.getD m (Int.toNat id) (0 : Int) - (9 : Int)))
                                                      z) <
                                                  (↑(32 : Nat) : Int)) ∧
                                              ((0 : Int) ≤
                                                    IntKind.wrap IntKind.i64
                                                      (Int.tdiv
                                                        (IntKind.wrap IntKind.i64
                                                          (List.getD m (Int.toNat id) (0 : Int) - (9 : Int)))
                                                        z) ∧
                                                  IntKind.wrap IntKind.i64
                                                      (Int.tdiv
                                                        (IntKind.wrap IntKind.i64
                                                          (List.getD m (Int.toNat id) (0 : Int) - (9 : Int)))
                                                        z) <
                                                    (↑(32 : Nat) : Int)) ∧
                                                id = id ∧
                                                  t = t ∧
                                                    (0 : Nat) = (0 : Nat) ∧
                                                      (0 : Nat) = (0 : Nat) ∧
                                                        p.fst.fst = p.fst.fst ∧
                                                          p.fst.snd.fst = p.fst.snd.fst ∧
                                                            (0 : Nat) = (0 : Nat) ∧
                                                              s = s ∧
                                                                z = z ∧
                                                                  m = m ∧
                                                                    I
                                                                      (PUnit.unit, PUnit.unit, PUnit.unit,
                                                                        (List.set xs
                                                                            (Int.toNat
                                                                              (IntKind.wrap IntKind.i64
                                                                                (Int.tdiv
                                                                                  (IntKind.wrap IntKind.i64
                                                                                    (List.getD m (Int.toNat id)
                                                                                        (0 : Int) -
                                                                                      (9 : Int)))
                                                                                  z)))
                                                                            (IntKind.wrap IntKind.i64
                                                                              (List.getD xs
                                                                                  (Int.toNat
                                                                                    (IntKind.wrap IntKind.i64
                                                                                      (Int.tdiv
                                                                                        (IntKind.wrap IntKind.i64
                                                                                          (List.getD m (Int.toNat id)
                                                                                              (0 : Int) -
                                                                                            (9 : Int)))
                                                                                        z)))
                                                                                  (0 : Int) -
                                                                                (1 : Int))),
                                                                          PUnit.unit),
                                                                        PUnit.unit)
                                                                      H')
                                        (id = id ∧
                                          t = t ∧
                                            (0 : Nat) = (0 : Nat) ∧
                                              (0 : Nat) = (0 : Nat) ∧
                                                p.fst.fst = p.fst.fst ∧
                                                  p.fst.snd.fst = p.fst.snd.fst ∧
                                                    (0 : Nat) = (0 : Nat) ∧
                                                      s = s ∧
                                                        z = z ∧
                                                          m = m ∧
                                                            I
                                                              (PUnit.unit, PUnit.unit, PUnit.unit, (xs, PUnit.unit),
                                                                PUnit.unit)
                                                              H'))
                                    (id = id ∧
                                      t = t ∧
                                        (0 : Nat) = (0 : Nat) ∧
                                          (0 : Nat) = (0 : Nat) ∧
                                            p.fst.fst = p.fst.fst ∧
                                              p.fst.snd.fst = p.fst.snd.fst ∧
                                                (0 : Nat) = (0 : Nat) ∧
                                                  s = s ∧
                                                    z = z ∧
                                                      m = m ∧
                                                        I
                                                          (PUnit.unit, PUnit.unit, PUnit.unit, (xs, PUnit.unit),
                                                            PUnit.unit)
                                                          H'))
                              fun (p_1 : PUnit × PUnit × PUnit × (List Int × PUnit) × PUnit) (H : Nat → Option Obj) ↦
                              z ≠ (0 : Int) ∧
                                ((0 : Int) ≤
                                      IntKind.wrap IntKind.i64
                                        (Int.tdiv (IntKind.wrap IntKind.i64 (p.fst.snd.fst - (9 : Int))) z) ∧
                                    IntKind.wrap IntKind.i64
                                        (Int.tdiv (IntKind.wrap IntKind.i64 (p.fst.snd.fst - (9 : Int))) z) <
                                      (↑(32 : Nat) : Int)) ∧
                                  ((0 : Int) ≤
                                        IntKind.wrap IntKind.i64
                                          (Int.tdiv (IntKind.wrap IntKind.i64 (p.fst.snd.fst - (9 : Int))) z) ∧
                                      IntKind.wrap IntKind.i64
                                          (Int.tdiv (IntKind.wrap IntKind.i64 (p.fst.snd.fst - (9 : Int))) z) <
                                        (↑(32 : Nat) : Int)) ∧
                                    ((0 : Int) ≤ id ∧ id < (↑(256 : Nat) : Int)) ∧
                                      Meets prog (20 : Nat)
                                        [Value.agg { toList := [Value.int IntKind.i64 s, Value.int IntKind.i64 z] },
                                          Value.agg
                                            {
                                              toList :=
                                                List.append
                                                  (List.map (Value.int IntKind.i64)
                                                    (List.set m (Int.toNat id) p.fst.snd.fst))
                                                  [] }]
                                        H fun (e : Ending) (H' : Nat → Option Obj) ↦
                                        H ≤ H' ∧
                                          ∃ (xs : List Int),
                                            List.length xs = (32 : Nat) ∧
                                              e =
                                                  Ending.returned
                                                    (Value.agg
                                                      {
                                                        toList :=
                                                          List.append (List.map (Value.int IntKind.i64) xs)
                                                            (flatD []) }) ∧
                                                R
                                                  (Ending.returned
                                                    (Value.bool
                                                      (andO none
                                                        (xs ==
                                                          List.set p_1.snd.snd.snd.fst.fst
                                                            (Int.toNat
                                                              (IntKind.wrap IntKind.i64
                                                                (Int.tdiv
                                                                  (IntKind.wrap IntKind.i64 (p.fst.snd.fst - (9 : Int)))
                                                                  z)))
                                                            (IntKind.wrap IntKind.i64
                                                              (List.getD p_1.snd.snd.snd.fst.fst
                                                                  (Int.toNat
                                                                    (IntKind.wrap IntKind.i64
                                                                      (Int.tdiv
                                                                        (IntKind.wrap IntKind.i64
                                                                          (p.fst.snd.fst - (9 : Int)))
                                                                        z)))
                                                                  (0 : Int) +
                                                                (1 : Int)))))))
                                                  (delLs H' [])))))))
theorem vc_f6 (s : Int) (z : Int) (id : Int) (t : Int) (m : List
  Int) (R : Ending →
  Heap →
    Prop) (H : Heap) : vcFun prog h6 f6
  [SV.agg [Seg.c (SC.v (Value.int IntKind.i64 s)), Seg.c (SC.v (Value.int IntKind.i64 z))],
    SV.agg [Seg.ints IntKind.i64 (256 : Nat) m], SV.c (SC.v (Value.int IntKind.u8 id)),
    SV.c (SC.v (Value.int IntKind.i64 t))]
  R H = nf_f6 s z id t m R H := by kernel_rfl
abbrev plc (a b c : Int) : Value := .agg #[.int .i64 a, .int .i64 b, .int .i64 c]
def cells (l : List Int) : List (List Value) := l.map fun n => [Value.int .i64 n]
def fr (s a c : Int) (l : List Int) : Nat → List Int
  | 0 => []
  | k + 1 => fr s a c l k ++ (if (k : Int) < s ∧ l.getD k 0 = 0 ∧ (k : Int) ≠ a ∧ (k : Int) ≠ c then [(k : Int)] else [])
theorem fr_len (s a c : Int) (l : List Int) : ∀ k, (fr s a c l k).length ≤ k
  | 0 => Nat.le_refl _
  | k + 1 => by
    have := fr_len s a c l k
    simp only [fr, List.length_append]
    split <;> simp <;> omega
theorem live_len (s z : Int) (m : List Int) : (live s z m).length = 32 := by unfold live; rw [liv_len]; rfl
theorem cells_snoc (l : List Int) (n : Int) : List.append (cells l) [[Value.int .i64 n]] = cells (l ++ [n]) := by simp [cells]
section
variable {R : Ending → Heap → Prop} {H : Heap}
theorem s22 (s z a b c : Int) (m : List Int) (hm : m.length = 256) (h1 : ¬ Ok s z → R (.returned (.slice none 0 0)) H)
    (h2 : Ok s z → ∀ v H', H ≤ H' → RowAt H' v 3 1 (cells (fr s a c (live s z m) 32)) → R (.returned v) H') : Meets prog 22 [geo s z, arr m, plc a b c] H R := by
  refine spec_of func22 (by kernel_rfl) (fun t h => by cases h) ?_ (vc_f22 s z a b c m R H) ?_
  · simp [argsR, SV.rep, SC.rep, SegsRep, one, hm]
  unfold nf_f22
  refine s15 s z fun e he => ⟨e, rfl, br (fun k => h1 fun ok => ?_) fun k => ?_⟩
  · simp at k; exact k (he.2 ok)
  simp at k
  have ok := he.1 k
  refine s20 s z m hm ⟨live s z m, live_len s z m, rfl, ?_⟩
  simp only [true_and]
  refine ⟨fun p H' => (0 ≤ p.1.1 ∧ p.1.1 ≤ 32) ∧ p.1.2.1 = cells (fr s a c (live s z m) p.1.1.toNat) ∧ H' = H, fun p _ => (32 - p.1.1).toNat, ⟨by simp, rfl, rfl⟩, ?_⟩
  rintro ⟨⟨k, es, _⟩, _, _, _, _⟩ H' ⟨hk, hl, rfl⟩
  simp only at hk hl
  subst hl
  simp only
  refine br (fun q => ?_) fun q => ?_
  · simp only [decide_eq_true_eq] at q
    have hw : IntKind.i64.wrap (k + 1) = k + 1 := IntWalk.i64_in _ (by omega)
    have hkn : ((k.toNat : Nat) : Int) = k := by omega
    have hstep : fr s a c (live s z m) (k + 1).toNat = fr s a c (live s z m) k.toNat ++ (if k < s ∧ (live s z m).getD k.toNat 0 = 0 ∧ k ≠ a ∧ k ≠ c then [k] else []) := by
      rw [show (k + 1).toNat = k.toNat + 1 by omega]
      simp only [fr, hkn]
    have hlen := fr_len s a c (live s z m) k.toNat
    have no : ¬ (k < s ∧ (live s z m).getD k.toNat 0 = 0 ∧ k ≠ a ∧ k ≠ c) →
        ((0 ≤ IntKind.i64.wrap (k + 1) ∧ IntKind.i64.wrap (k + 1) ≤ 32) ∧ cells (fr s a c (live s z m) k.toNat) = cells (fr s a c (live s z m) (IntKind.i64.wrap (k + 1)).toNat) ∧ H' = H') ∧ (32 - IntKind.i64.wrap (k + 1)).toNat < (32 - k).toNat := by
      intro hno
      rw [hw, hstep, if_neg hno, List.append_nil]
      exact ⟨⟨by omega, rfl, rfl⟩, by omega⟩
    refine ⟨⟨hk.1, by omega⟩, br (fun a1 => br (fun a2 => br (fun a3 => br (fun a4 => ?_) fun a4 => ?_) fun a3 => ?_) fun a2 => ?_) fun a1 => ?_⟩
    all_goals simp only [true_and, decide_eq_true_eq, decide_eq_false_iff_not, beq_iff_eq, beq_eq_false_iff_ne, bne_iff_ne, bne_eq_false_iff_eq, ne_eq] at *
    · refine ⟨?_, ?_, ?_⟩
      · simp [cells]; omega
      · refine ⟨by rw [hw]; omega, ?_, trivial⟩
        rw [cells_snoc, hw, hstep, if_pos ⟨a1, a2, a3, a4⟩]
      · rw [hw]; omega
    · exact no fun ⟨_, _, _, x⟩ => x a4
    · exact no fun ⟨_, _, x, _⟩ => x a3
    · exact no fun ⟨_, x, _, _⟩ => a2 x
    · exact no fun ⟨x, _, _, _⟩ => a1 x
  · simp only [decide_eq_false_iff_not] at q
    have : k = 32 := by omega
    subst this
    intro v H'' h3 h4 h5 h6
    exact h2 ok v H'' h3 h6
end
end Go.Proofs.Ytjlnkihkabljbaa.Us
