import Derived.Test.YtjlnkihkabljbaaSxR
import Derived.Test.YtjlnkihkabljbaaL1
import Derived.Test.YtjlnkihkabljbaaRows
namespace Go.Proofs.Ytjlnkihkabljbaa.Lay
open Go Sx Go.RowKit Go.ChangeShapes Go.WideShapes
open Go.Proofs.Try
set_option linter.unusedVariables false
set_option linter.unusedSimpArgs false
set_option maxRecDepth 100000
def h4 : Hints := { cuts := [(4, ⟨[1,2,3,4,5], [.f 11 .bool], [.keep 5]⟩), (7, ⟨[1,2,3,4,5], [.f 11 .bool, .f 12 (.int .i64)], [.keep 5]⟩), (8, ⟨[1,2,3,4,5], [.f 11 .bool, .f 12 (.int .i64), .f 13 .bool], [.keep 5]⟩),
  (11, ⟨[1,2,3,4,5], [.f 11 .bool, .f 12 (.int .i64), .f 13 .bool, .f 14 (.int .i64)], [.keep 5]⟩), (14, ⟨[1,2,3,4,5], [.f 11 .bool, .f 12 (.int .i64), .f 13 .bool, .f 14 (.int .i64), .f 15 (.int .i64)], [.keep 5]⟩),
  (17, ⟨[1,2,3,4,5], [.f 11 .bool, .f 12 (.int .i64), .f 13 .bool, .f 14 (.int .i64), .f 15 (.int .i64), .f 16 (.int .i64)], [.keep 5]⟩)] }
def nf_f14 (s : Int) (z : Int) (n : Int) (R : Ending → Heap → Prop) (H : Heap) : Prop :=
  Br (decide (n < 9))
  (R (Ending.returned (Value.tuple { toList := [Value.int IntKind.i64 0, Value.int IntKind.i64 0, Value.bool false] }))
    H)
  (Meets prog 16 [Value.agg { toList := [Value.int IntKind.i64 s, Value.int IntKind.i64 z] }] H
    fun (e : Ending) (H' : Heap) ↦
    ∃ (n_1 : Int),
      e = Ending.returned (Value.int IntKind.i64 n_1) ∧
        Br (decide (n ≥ n_1))
          (R
            (Ending.returned
              (Value.tuple { toList := [Value.int IntKind.i64 0, Value.int IntKind.i64 0, Value.bool false] }))
            H')
          (z ≠ 0 ∧
            z ≠ 0 ∧
              R
                (Ending.returned
                  (Value.tuple
                    {
                      toList :=
                        [Value.int IntKind.i64
                            (IntKind.wrap IntKind.i64 (Int.tdiv (IntKind.wrap IntKind.i64 (n - 9)) z)),
                          Value.int IntKind.i64 (Int.tmod (IntKind.wrap IntKind.i64 (n - 9)) z), Value.bool true] }))
                H'))
theorem vc_f14 (s : Int) (z : Int) (n : Int) (R : Ending →
  Heap →
    Prop) (H : Heap) : vcFun prog { } f14
  [SV.agg [Seg.c (SC.v (Value.int IntKind.i64 s)), Seg.c (SC.v (Value.int IntKind.i64 z))],
    SV.c (SC.v (Value.int IntKind.i64 n))]
  R H = nf_f14 s z n R H := by kernel_rfl
def nf_f5 (s : Int) (z : Int) (i : Int) (n : Int) (R : Ending → Heap → Prop) (H : Heap) : Prop :=
  Meets prog (nat_lit 12) [] H fun (e : Ending) (H' : Nat → Option Obj) ↦
  ∃ (b : Bool),
    e = Ending.returned (Value.bool b) ∧
      Br (!b) (R (Ending.returned (Value.bool false)) H')
        (Meets prog (nat_lit 13)
          [Value.agg { toList := [Value.int IntKind.i64 s, Value.int IntKind.i64 z] }, Value.int IntKind.i64 i,
            Value.int IntKind.i64 n]
          H' fun (e : Ending) (H' : Nat → Option Obj) ↦
          ∃ (n_1 : Int),
            ∃ (b : Bool),
              e = Ending.returned (Value.tuple { toList := [Value.int IntKind.i64 n_1, Value.bool b] }) ∧
                Br (!b) (R (Ending.returned (Value.bool (n_1 == (0 : Int)))) H')
                  (Meets prog (nat_lit 14)
                    [Value.agg { toList := [Value.int IntKind.i64 s, Value.int IntKind.i64 z] },
                      Value.int IntKind.i64 n_1]
                    H' fun (e : Ending) (H' : Nat → Option Obj) ↦
                    ∃ (n_2 : Int),
                      ∃ (n_3 : Int),
                        ∃ (b : Bool),
                          e =
                              Ending.returned
                                (Value.tuple
                                  { toList := [Value.int IntKind.i64 n_2, Value.int IntKind.i64 n_3, Value.bool b] }) ∧
                            Br b
                              (Br (n_2 == i)
                                (Br (n_3 == n)
                                  (Br (decide (n_1 > (8 : Int)))
                                    (Meets prog (nat_lit 16)
                                      [Value.agg { toList := [Value.int IntKind.i64 s, Value.int IntKind.i64 z] }] H'
                                      fun (e : Ending) (H' : Nat → Option Obj) ↦
                                      ∃ (n_4 : Int),
                                        e = Ending.returned (Value.int IntKind.i64 n_4) ∧
                                          Br (decide (n_1 < n_4))
                                            (Meets prog (nat_lit 17)
                                              [Value.agg
                                                  { toList := [Value.int IntKind.i64 s, Value.int IntKind.i64 z] },
                                                Value.int IntKind.i64 i]
                                              H' fun (e : Ending) (H' : Nat → Option Obj) ↦
                                              ∃ (n_5 : Int),
                                                e = Ending.returned (Value.int IntKind.i64 n_5) ∧
                                                  R
                                                    (Ending.returned
                                                      (Value.bool (n_5 == IntKind.wrap IntKind.i64 (n_1 - n))))
                                                    H')
                                            (R (Ending.returned (Value.bool false)) H'))
                                    (R (Ending.returned (Value.bool false)) H'))
                                  (R (Ending.returned (Value.bool false)) H'))
                                (R (Ending.returned (Value.bool false)) H'))
                              (R (Ending.returned (Value.bool false)) H')))
theorem vc_f5 (s : Int) (z : Int) (i : Int) (n : Int) (R : Ending →
  Heap →
    Prop) (H : Heap) : vcFun prog { } f5
  [SV.agg [Seg.c (SC.v (Value.int IntKind.i64 s)), Seg.c (SC.v (Value.int IntKind.i64 z))],
    SV.c (SC.v (Value.int IntKind.i64 i)), SV.c (SC.v (Value.int IntKind.i64 n))]
  R H = nf_f5 s z i n R H := by kernel_rfl
def nf_f4 (s : Int) (z : Int) (i : Int) (n : Int) (k : Int) (e : Int) (R : Ending → Heap → Prop) (H : Heap) : Prop :=
  Meets prog (nat_lit 12) [] H fun (e_1 : Ending) (H' : Nat → Option Obj) ↦
  ∃ (b : Bool),
    e_1 = Ending.returned (Value.bool b) ∧
      Br (!b) (R (Ending.returned (Value.bool false)) H')
        (CutP
          (fun (I : (Bool × PUnit) × PUnit × PUnit → (Nat → Option Obj) → Prop) ↦
            Br (decide (s ≥ (6 : Int)))
              (Br (decide (s ≤ (32 : Int)))
                (Br (decide (z ≥ (4 : Int)))
                  (i = i ∧
                    n = n ∧
                      k = k ∧
                        e = e ∧
                          nat_lit 0 = nat_lit 0 ∧
                            s = s ∧ z = z ∧ I ((decide (z ≤ (32 : Int)), PUnit.unit), PUnit.unit, PUnit.unit) H')
                  (i = i ∧
                    n = n ∧
                      k = k ∧
                        e = e ∧
                          nat_lit 0 = nat_lit 0 ∧ s = s ∧ z = z ∧ I ((false, PUnit.unit), PUnit.unit, PUnit.unit) H'))
                (i = i ∧
                  n = n ∧
                    k = k ∧
                      e = e ∧
                        nat_lit 0 = nat_lit 0 ∧ s = s ∧ z = z ∧ I ((false, PUnit.unit), PUnit.unit, PUnit.unit) H'))
              (i = i ∧
                n = n ∧
                  k = k ∧
                    e = e ∧ nat_lit 0 = nat_lit 0 ∧ s = s ∧ z = z ∧ I ((false, PUnit.unit), PUnit.unit, PUnit.unit) H'))
          fun (p : (Bool × PUnit) × PUnit × PUnit) (H : Nat → Option Obj) ↦
          CutP
            (fun (I : (Bool × Int × PUnit) × PUnit × PUnit → (Nat → Option Obj) → Prop) ↦
              Br p.fst.fst
                (i = i ∧
                  n = n ∧
                    k = k ∧
                      e = e ∧
                        nat_lit 0 = nat_lit 0 ∧
                          s = s ∧
                            z = z ∧
                              I
                                ((p.fst.fst, IntKind.wrap IntKind.i64 ((9 : Int) + IntKind.wrap IntKind.i64 (s * z)),
                                    PUnit.unit),
                                  PUnit.unit, PUnit.unit)
                                H)
                (i = i ∧
                  n = n ∧
                    k = k ∧
                      e = e ∧
                        nat_lit 0 = nat_lit 0 ∧
                          s = s ∧ z = z ∧ I ((p.fst.fst, (0 : Int), PUnit.unit), PUnit.unit, PUnit.unit) H))
            fun (p : (Bool × Int × PUnit) × PUnit × PUnit) (H : Nat → Option Obj) ↦
            CutP
              (fun (I : (Bool × Int × Bool × PUnit) × PUnit × PUnit → (Nat → Option Obj) → Prop) ↦
                Br p.fst.fst
                  (Br (decide (i ≥ (0 : Int)))
                    (Br (decide (i < s))
                      (Br (decide (n ≥ (0 : Int)))
                        (i = i ∧
                          n = n ∧
                            k = k ∧
                              e = e ∧
                                nat_lit 0 = nat_lit 0 ∧
                                  s = s ∧
                                    z = z ∧
                                      I ((p.fst.fst, p.fst.snd.fst, decide (n < z), PUnit.unit), PUnit.unit, PUnit.unit)
                                        H)
                        (i = i ∧
                          n = n ∧
                            k = k ∧
                              e = e ∧
                                nat_lit 0 = nat_lit 0 ∧
                                  s = s ∧
                                    z = z ∧
                                      I ((p.fst.fst, p.fst.snd.fst, false, PUnit.unit), PUnit.unit, PUnit.unit) H))
                      (i = i ∧
                        n = n ∧
                          k = k ∧
                            e = e ∧
                              nat_lit 0 = nat_lit 0 ∧
                                s = s ∧
                                  z = z ∧ I ((p.fst.fst, p.fst.snd.fst, false, PUnit.unit), PUnit.unit, PUnit.unit) H))
                    (i = i ∧
                      n = n ∧
                        k = k ∧
                          e = e ∧
                            nat_lit 0 = nat_lit 0 ∧
                              s = s ∧
                                z = z ∧ I ((p.fst.fst, p.fst.snd.fst, false, PUnit.unit), PUnit.unit, PUnit.unit) H))
                  (i = i ∧
                    n = n ∧
                      k = k ∧
                        e = e ∧
                          nat_lit 0 = nat_lit 0 ∧
                            s = s ∧
                              z = z ∧ I ((p.fst.fst, p.fst.snd.fst, false, PUnit.unit), PUnit.unit, PUnit.unit) H))
              fun (p : (Bool × Int × Bool × PUnit) × PUnit × PUnit) (H : Nat → Option Obj) ↦
              CutP
                (fun (I : (Bool × Int × Bool × Int × PUnit) × PUnit × PUnit → (Nat → Option Obj) → Prop) ↦
                  Br p.fst.snd.snd.fst
                    (i = i ∧
                      n = n ∧
                        k = k ∧
                          e = e ∧
                            nat_lit 0 = nat_lit 0 ∧
                              s = s ∧
                                z = z ∧
                                  I
                                    ((p.fst.fst, p.fst.snd.fst, p.fst.snd.snd.fst,
                                        IntKind.wrap IntKind.i64
                                          (IntKind.wrap IntKind.i64 ((9 : Int) + IntKind.wrap IntKind.i64 (i * z)) + n),
                                        PUnit.unit),
                                      PUnit.unit, PUnit.unit)
                                    H)
                    (i = i ∧
                      n = n ∧
                        k = k ∧
                          e = e ∧
                            nat_lit 0 = nat_lit 0 ∧
                              s = s ∧
                                z = z ∧
                                  I
                                    ((p.fst.fst, p.fst.snd.fst, p.fst.snd.snd.fst, (0 : Int), PUnit.unit), PUnit.unit,
                                      PUnit.unit)
                                    H))
                fun (p : (Bool × Int × Bool × Int × PUnit) × PUnit × PUnit) (H : Nat → Option Obj) ↦
                CutP
                  (fun (I : (Bool × Int × Bool × Int × Int × PUnit) × PUnit × PUnit → (Nat → Option Obj) → Prop) ↦
                    Br p.fst.fst
                      (Br (decide (i ≥ (0 : Int)))
                        (Br (decide (i < s))
                          (i = i ∧
                            n = n ∧
                              k = k ∧
                                e = e ∧
                                  nat_lit 0 = nat_lit 0 ∧
                                    s = s ∧
                                      z = z ∧
                                        I
                                          ((p.fst.fst, p.fst.snd.fst, p.fst.snd.snd.fst, p.fst.snd.snd.snd.fst,
                                              IntKind.wrap IntKind.i64 ((9 : Int) + IntKind.wrap IntKind.i64 (i * z)),
                                              PUnit.unit),
                                            PUnit.unit, PUnit.unit)
                                          H)
                          (i = i ∧
                            n = n ∧
                              k = k ∧
                                e = e ∧
                                  nat_lit 0 = nat_lit 0 ∧
                                    s = s ∧
                                      z = z ∧
                                        I
                                          ((p.fst.fst, p.fst.snd.fst, p.fst.snd.snd.fst, p.fst.snd.snd.snd.fst,
                                              (0 : Int), PUnit.unit),
                                            PUnit.unit, PUnit.unit)
                                          H))
                        (i = i ∧
                          n = n ∧
                            k = k ∧
                              e = e ∧
                                nat_lit 0 = nat_lit 0 ∧
                                  s = s ∧
                                    z = z ∧
                                      I
                                        ((p.fst.fst, p.fst.snd.fst, p.fst.snd.snd.fst, p.fst.snd.snd.snd.fst, (0 : Int),
                                            PUnit.unit),
                                          PUnit.unit, PUnit.unit)
                                        H))
                      (i = i ∧
                        n = n ∧
                          k = k ∧
                            e = e ∧
                              nat_lit 0 = nat_lit 0 ∧
                                s = s ∧
                                  z = z ∧
                                    I
                                      ((p.fst.fst, p.fst.snd.fst, p.fst.snd.snd.fst, p.fst.snd.snd.snd.fst, (0 : Int),
                                          PUnit.unit),
                                        PUnit.unit, PUnit.unit)
                                      H))
                  fun (p : (Bool × Int × Bool × Int × Int × PUnit) × PUnit × PUnit) (H : Nat → Option Obj) ↦
                  CutP
                    (fun
                        (I :
                          (Bool × Int × Bool × Int × Int × Int × PUnit) × PUnit × PUnit → (Nat → Option Obj) → Prop) ↦
                      (2 : Int) ≠ (0 : Int) ∧
                        Br (Int.tmod e (2 : Int) != (0 : Int))
                          (i = i ∧
                            n = n ∧
                              k = k ∧
                                e = e ∧
                                  nat_lit 0 = nat_lit 0 ∧
                                    s = s ∧
                                      z = z ∧
                                        I
                                          ((p.fst.fst, p.fst.snd.fst, p.fst.snd.snd.fst, p.fst.snd.snd.snd.fst,
                                              p.fst.snd.snd.snd.snd.fst, (5 : Int), PUnit.unit),
                                            PUnit.unit, PUnit.unit)
                                          H)
                          (i = i ∧
                            n = n ∧
                              k = k ∧
                                e = e ∧
                                  nat_lit 0 = nat_lit 0 ∧
                                    s = s ∧
                                      z = z ∧
                                        I
                                          ((p.fst.fst, p.fst.snd.fst, p.fst.snd.snd.fst, p.fst.snd.snd.snd.fst,
                                              p.fst.snd.snd.snd.snd.fst, (1 : Int), PUnit.unit),
                                            PUnit.unit, PUnit.unit)
                                          H))
                    fun (p : (Bool × Int × Bool × Int × Int × Int × PUnit) × PUnit × PUnit) (H : Nat → Option Obj) ↦
                    Meets prog (nat_lit 13)
                      [Value.agg { toList := [Value.int IntKind.i64 s, Value.int IntKind.i64 z] },
                        Value.int IntKind.i64 i, Value.int IntKind.i64 n]
                      H fun (e_2 : Ending) (H' : Nat → Option Obj) ↦
                      ∃ (n : Int),
                        ∃ (b : Bool),
                          e_2 = Ending.returned (Value.tuple { toList := [Value.int IntKind.i64 n, Value.bool b] }) ∧
                            Meets prog (nat_lit 14)
                              [Value.agg { toList := [Value.int IntKind.i64 s, Value.int IntKind.i64 z] },
                                Value.int IntKind.i64 k]
                              H' fun (e_3 : Ending) (H' : Nat → Option Obj) ↦
                              ∃ (n_1 : Int),
                                ∃ (n_2 : Int),
                                  ∃ (b_1 : Bool),
                                    e_3 =
                                        Ending.returned
                                          (Value.tuple
                                            {
                                              toList :=
                                                [Value.int IntKind.i64 n_1, Value.int IntKind.i64 n_2,
                                                  Value.bool b_1] }) ∧
                                      Meets prog (nat_lit 15)
                                        [Value.agg { toList := [Value.int IntKind.i64 s, Value.int IntKind.i64 z] }] H'
                                        fun (e_4 : Ending) (H' : Nat → Option Obj) ↦
                                        ∃ (n_3 : Int),
                                          e_4 = Ending.returned (Value.int IntKind.i64 n_3) ∧
                                            Br (!(n_3 == (0 : Int)) == p.fst.fst)
                                              (R (Ending.returned (Value.bool false)) H')
                                              (Meets prog (nat_lit 16)
                                                [Value.agg
                                                    { toList := [Value.int IntKind.i64 s, Value.int IntKind.i64 z] }]
                                                H' fun (e_5 : Ending) (H' : Nat → Option Obj) ↦
                                                ∃ (n_4 : Int),
                                                  e_5 = Ending.returned (Value.int IntKind.i64 n_4) ∧
                                                    Br (n_4 != p.fst.snd.fst)
                                                      (R (Ending.returned (Value.bool false)) H')
                                                      (Meets prog (nat_lit 17)
                                                        [Value.agg
                                                            {
                                                              toList :=
                                                                [Value.int IntKind.i64 s, Value.int IntKind.i64 z] },
                                                          Value.int IntKind.i64 i]
                                                        H' fun (e_6 : Ending) (H' : Nat → Option Obj) ↦
                                                        ∃ (n_5 : Int),
                                                          e_6 = Ending.returned (Value.int IntKind.i64 n_5) ∧
                                                            Br (n_5 != p.fst.snd.snd.snd.snd.fst)
                                                              (R (Ending.returned (Value.bool false)) H')
                                                              (Br (n != p.fst.snd.snd.snd.fst)
                                                                (R (Ending.returned (Value.bool false)) H')
                                                                (Br (!b == p.fst.snd.snd.fst)
                                                                  (R (Ending.returned (Value.bool false)) H')
                                                                  (Meets prog (nat_lit 18) [Value.int IntKind.i64 e] H'
                                                                    fun (e : Ending) (H' : Nat → Option Obj) ↦
                                                                    ∃ (n : Int),
                                                                      e = Ending.returned (Value.int IntKind.i64 n) ∧
                                                                        Br (n != p.fst.snd.snd.snd.snd.snd.fst)
                                                                          (R (Ending.returned (Value.bool false)) H')
                                                                          (Br (decide (k < (9 : Int)))
                                                                            (Br (!b_1)
                                                                              (Br (n_1 == (0 : Int))
                                                                                (R
                                                                                  (Ending.returned
                                                                                    (Value.bool (n_2 == (0 : Int))))
                                                                                  H')
                                                                                (R (Ending.returned (Value.bool false))
                                                                                  H'))
                                                                              (R (Ending.returned (Value.bool false))
                                                                                H'))
                                                                            (Br (decide (k ≥ p.fst.snd.fst))
                                                                              (Br (!b_1)
                                                                                (Br (n_1 == (0 : Int))
                                                                                  (R
                                                                                    (Ending.returned
                                                                                      (Value.bool (n_2 == (0 : Int))))
                                                                                    H')
                                                                                  (R
                                                                                    (Ending.returned (Value.bool false))
                                                                                    H'))
                                                                                (R (Ending.returned (Value.bool false))
                                                                                  H'))
                                                                              (Br b_1
                                                                                (Br
                                                                                  (IntKind.wrap IntKind.i64
                                                                                      (IntKind.wrap IntKind.i64
                                                                                          (n_1 * z) +
                                                                                        n_2) ==
                                                                                    IntKind.wrap IntKind.i64
                                                                                      (k - (9 : Int)))
                                                                                  (Br (decide (n_2 ≥ (0 : Int)))
                                                                                    (R
                                                                                      (Ending.returned
                                                                                        (Value.bool (decide (n_2 < z))))
                                                                                      H')
                                                                                    (R
                                                                                      (Ending.returned
                                                                                        (Value.bool false))
                                                                                      H'))
                                                                                  (R
                                                                                    (Ending.returned (Value.bool false))
                                                                                    H'))
                                                                                (R (Ending.returned (Value.bool false))
                                                                                  H'))))))))))
theorem vc_f4 (s : Int) (z : Int) (i : Int) (n : Int) (k : Int) (e : Int) (R : Ending →
  Heap →
    Prop) (H : Heap) : vcFun prog h4 f4
  [SV.agg [Seg.c (SC.v (Value.int IntKind.i64 s)), Seg.c (SC.v (Value.int IntKind.i64 z))],
    SV.c (SC.v (Value.int IntKind.i64 i)), SV.c (SC.v (Value.int IntKind.i64 n)), SV.c (SC.v (Value.int IntKind.i64 k)),
    SV.c (SC.v (Value.int IntKind.i64 e))]
  R H = nf_f4 s z i n k e R H := by kernel_rfl
theorem and_one (a : Int) : bitOp .and .i64 a 1 = a % 2 := by
  unfold bitOp
  have e : (BitVec.ofInt IntKind.i64.bits a &&& BitVec.ofInt IntKind.i64.bits 1).toNat = (a % 18446744073709551616).toNat % 2 := by
    rw [BitVec.toNat_and, BitVec.toNat_ofInt, BitVec.toNat_ofInt]
    show (a % 18446744073709551616).toNat &&& 1 = _
    rw [Nat.and_one_is_mod]
  simp only [e]
  rw [IntWalk.i64_in _ (by omega)]
  omega
theorem tmod2 (a : Int) : a.tmod 2 = 0 ↔ a % 2 = 0 := by
  rw [← Int.dvd_iff_tmod_eq_zero, Int.dvd_iff_emod_eq_zero]
theorem eqb {a b : Bool} (h : a = true ↔ b = true) : a = b := by cases a <;> cases b <;> simp_all
section
variable {R : Ending → Heap → Prop} {H : Heap}
theorem s14 (s z n : Int) (h1 : Ok s z → 9 ≤ n → n < 9 + s * z → R (.returned (.tuple #[vi ((n - 9) / z), vi ((n - 9) % z), .bool true])) H)
    (h2 : ¬ (Ok s z ∧ 9 ≤ n ∧ n < 9 + s * z) → R (.returned (.tuple #[vi 0, vi 0, .bool false])) H) : Meets prog 14 [geo s z, vi n] H R := by
  refine spec_of func14 (by kernel_rfl) noEqs ?_ (vc_f14 s z n R H) ?_
  · simp [argsR, SV.rep, SC.rep, SegsRep, one]
  unfold nf_f14
  refine br (fun k => h2 ?_) fun k => ?_
  · simp at k; omega
  simp at k
  refine s16 s z fun m hm hm2 => ⟨m, rfl, br (fun k2 => h2 ?_) fun k2 => ?_⟩
  · simp at k2
    rintro ⟨ok, _, h⟩
    have := hm ok
    omega
  · simp at k2
    by_cases ok : Ok s z
    · have := hm ok
      subst this
      have e1 : s * z ≤ 32 * 32 := Int.mul_le_mul (by unfold Ok at ok; omega) (by unfold Ok at ok; omega) (by unfold Ok at ok; omega) (by omega)
      have z1 := ok.2
      refine ⟨by omega, by omega, ?_⟩
      rw [IntWalk.i64_in (n - 9) (by omega), IntWalk.i64_quo _ _ (by omega), Int.tmod_eq_emod_of_nonneg (by omega)]
      exact h1 ok k k2
    · have := hm2 ok
      omega
theorem s17 (s z i : Int) (h : ∀ m : Int, (Ok s z → (0 ≤ i ∧ i < s) → m = 9 + i * z) → (¬ (Ok s z ∧ 0 ≤ i ∧ i < s) → m = 0) → R (.returned (vi m)) H) : Meets prog 17 [geo s z, vi i] H R := by
  refine spec_of func17 (by kernel_rfl) noEqs ?_ (vc_f17 s z i R H) ?_
  · simp [argsR, SV.rep, SC.rep, SegsRep, one]
  unfold nf_f17
  refine s13 s z i 0 (fun ok hi hn => ⟨_, _, rfl, h _ ?_ ?_⟩) fun hno => ⟨_, _, rfl, h _ ?_ ?_⟩
  · intros; omega
  · intro q; exact absurd ⟨ok, hi⟩ q
  · intro ok hi; exact absurd ⟨ok, hi, by unfold Ok at ok; omega⟩ hno
  · intros; rfl
theorem place {s z i n : Int} (ok : Ok s z) (hi : 0 ≤ i ∧ i < s) (hn : 0 ≤ n ∧ n < z) : 0 ≤ i * z ∧ i * z + n < s * z ∧ s * z ≤ 1024 ∧ (i * z + n) / z = i ∧ (i * z + n) % z = n := by
  have e0 : 0 ≤ i * z := Int.mul_nonneg hi.1 (by omega)
  have e1 : (i + 1) * z ≤ s * z := Int.mul_le_mul_of_nonneg_right (by omega) (by omega)
  rw [Int.add_mul, Int.one_mul] at e1
  have e2 : s * z ≤ 32 * 32 := Int.mul_le_mul (by unfold Ok at ok; omega) (by unfold Ok at ok; omega) (by omega) (by omega)
  refine ⟨e0, by omega, by omega, ?_, ?_⟩
  · rw [Int.add_comm, Int.add_mul_ediv_right _ _ (by omega), Int.ediv_eq_zero_of_lt hn.1 hn.2, Int.zero_add]
  · rw [Int.add_comm, Int.add_mul_emod_self_right, Int.emod_eq_of_lt hn.1 hn.2]
theorem s5 (s z i n : Int) (h : R (.returned (.bool true)) H) : Meets prog 5 [geo s z, vi i, vi n] H R := by
  refine spec_of func5 (by kernel_rfl) noEqs ?_ (vc_f5 s z i n R H) ?_
  · simp [argsR, SV.rep, SC.rep, SegsRep, one]
  unfold nf_f5
  refine s12 ⟨true, rfl, ?_⟩
  simp only [Bool.not_true, br_false]
  refine s13 s z i n (fun ok hi hn => ⟨_, _, rfl, ?_⟩) fun _ => ⟨_, _, rfl, by simpa using h⟩
  simp only [Bool.not_true, br_false]
  obtain ⟨p0, p1, p2, p3, p4⟩ := place ok hi hn
  refine s14 s z (9 + i * z + n) (fun _ _ _ => ⟨_, _, _, rfl, ?_⟩) fun q => absurd ⟨ok, by omega, by omega⟩ q
  rw [show 9 + i * z + n - 9 = i * z + n by omega, p3, p4]
  have e3 : decide (9 + i * z + n > 8) = true := by simp; omega
  simp only [br_true, beq_self_eq_true, e3]
  refine s16 s z fun m hm _ => ⟨m, rfl, ?_⟩
  have := hm ok
  subst this
  have e4 : decide (9 + i * z + n < 9 + s * z) = true := by simp; omega
  rw [e4, br_true]
  refine s17 s z i fun m hm _ => ⟨m, rfl, ?_⟩
  rw [hm ok hi, IntWalk.i64_in _ (by omega)]
  have : (9 + i * z == 9 + i * z + n - n) = true := by simp <;> omega
  rw [this]; exact h
end
section
variable {R : Ending → Heap → Prop} {H : Heap}
def Inn (s z i n : Int) : Prop := Ok s z ∧ (0 ≤ i ∧ i < s) ∧ 0 ≤ n ∧ n < z
theorem s4 (s z i n k e : Int) (h : R (.returned (.bool true)) H) : Meets prog 4 [geo s z, vi i, vi n, vi k, vi e] H R := by
  refine spec_of func4 (by kernel_rfl) (fun t h => by cases h) ?_ (vc_f4 s z i n k e R H) ?_
  · simp [argsR, SV.rep, SC.rep, SegsRep, one]
  unfold nf_f4
  refine s12 ⟨true, rfl, ?_⟩
  simp only [Bool.not_true, br_false, true_and]
  -- ok
  refine ⟨fun p H' => (p.1.1 = true ↔ Ok s z) ∧ H' = H, ?_, ?_⟩
  · refine br (fun a => br (fun b => br (fun c => ?_) fun c => ?_) fun b => ?_) fun a => ?_
    all_goals simp at *
    all_goals unfold Ok
    all_goals omega
  rintro p H' ⟨ok, rfl⟩
  obtain ⟨⟨o, _⟩, _, _⟩ := p
  simp only at ok
  -- n
  refine ⟨fun q H'' => q.1.1 = o ∧ (Ok s z → q.1.2.1 = 9 + s * z) ∧ (¬ Ok s z → q.1.2.1 = 0) ∧ H'' = H', ?_, ?_⟩
  · refine br (fun a => ?_) fun a => ?_
    · simp only at a
      have ok' := ok.1 a
      have e1 : 0 ≤ s * z ∧ s * z ≤ 32 * 32 := ⟨Int.mul_nonneg (by unfold Ok at ok'; omega) (by unfold Ok at ok'; omega), Int.mul_le_mul (by unfold Ok at ok'; omega) (by unfold Ok at ok'; omega) (by unfold Ok at ok'; omega) (by omega)⟩
      refine ⟨rfl, fun _ => ?_, fun q => absurd ok' q, rfl⟩
      rw [IntWalk.i64_in (s * z) (by omega), IntWalk.i64_in _ (by omega)]
    · simp only at a
      exact ⟨rfl, fun q => absurd (ok.2 q) (by simp [a]), fun _ => rfl, rfl⟩
  rintro ⟨⟨o', m, _⟩, _, _⟩ H'' ⟨a1, m1, m2, rfl⟩
  simp only at a1 m1 m2
  subst a1
  -- in
  refine ⟨fun q H3 => q.1.1 = o' ∧ q.1.2.1 = m ∧ (q.1.2.2.1 = true ↔ Inn s z i n) ∧ H3 = H'', ?_, ?_⟩
  · refine br (fun a => br (fun b => br (fun c => br (fun d => ?_) fun d => ?_) fun c => ?_) fun b => ?_) fun a => ?_
    all_goals simp only [true_and, and_true, decide_eq_true_eq, decide_eq_false_iff_not, Bool.false_eq_true, false_iff] at *
    · have := ok.1 a; unfold Inn; constructor
      · intro _; exact ⟨this, ⟨by omega, by omega⟩, by omega, by omega⟩
      · intro q; exact q.2.2.2
    all_goals (intro q; unfold Inn at q; try omega)
    exact absurd (ok.2 q.1) (by simp [a])
  rintro ⟨⟨o1, m', y, _⟩, _, _⟩ H3 ⟨a1, a2, hy, rfl⟩
  simp only at a1 a2 hy
  subst a1 a2
  -- want
  refine ⟨fun q H4 => q.1.1 = o1 ∧ q.1.2.1 = m' ∧ q.1.2.2.1 = y ∧ (Inn s z i n → q.1.2.2.2.1 = 9 + i * z + n) ∧ (¬ Inn s z i n → q.1.2.2.2.1 = 0) ∧ H4 = H3, ?_, ?_⟩
  · refine br (fun a => ?_) fun a => ?_
    · simp only at a
      have q := hy.1 a
      obtain ⟨p0, p1, p2, _, _⟩ := place q.1 q.2.1 q.2.2
      refine ⟨rfl, rfl, rfl, fun _ => ?_, fun q' => absurd q q', rfl⟩
      have := q.2.2
      rw [IntWalk.i64_in (i * z) (by omega), IntWalk.i64_in (9 + i * z) (by omega), IntWalk.i64_in _ (by omega)]
    · simp only at a
      exact ⟨rfl, rfl, rfl, fun q => absurd (hy.2 q) (by simp [a]), fun _ => rfl, rfl⟩
  rintro ⟨⟨o2, m2', y2, g, _⟩, _, _⟩ H4 ⟨a1, a2, a3, g1, g2, rfl⟩
  simp only at a1 a2 a3 g1 g2
  subst a1 a2 a3
  -- first
  refine ⟨fun q H5 => q.1.1 = o2 ∧ q.1.2.1 = m2' ∧ q.1.2.2.1 = y2 ∧ q.1.2.2.2.1 = g ∧ (Ok s z → (0 ≤ i ∧ i < s) → q.1.2.2.2.2.1 = 9 + i * z) ∧ (¬ (Ok s z ∧ 0 ≤ i ∧ i < s) → q.1.2.2.2.2.1 = 0) ∧ H5 = H4, ?_, ?_⟩
  · refine br (fun a => br (fun b => br (fun c => ?_) fun c => ?_) fun b => ?_) fun a => ?_
    all_goals simp only [true_and, and_true, decide_eq_true_eq, decide_eq_false_iff_not, Bool.false_eq_true, false_iff] at *
    · have ok' := ok.1 a
      have z1 := ok'.2
      obtain ⟨p0, p1, p2, _, _⟩ := place (n := 0) ok' ⟨b, c⟩ ⟨by omega, by omega⟩
      refine ⟨fun _ _ => ?_, fun q => absurd ⟨ok', b, c⟩ q⟩
      rw [IntWalk.i64_in (i * z) (by omega), IntWalk.i64_in (9 + i * z) (by omega)]
    · exact ⟨fun _ q => absurd q.2 c, fun _ => trivial⟩
    · exact ⟨fun _ q => absurd q.1 b, fun _ => trivial⟩
    · exact ⟨fun q => absurd (ok.2 q) (by simp [a]), fun _ => trivial⟩
  rintro ⟨⟨o3, m3, y3, g', f, _⟩, _, _⟩ H5 ⟨a1, a2, a3, a4, f1, f2, rfl⟩
  simp only at a1 a2 a3 a4 f1 f2
  subst a1 a2 a3 a4
  -- region
  refine ⟨fun q H6 => q.1.1 = o3 ∧ q.1.2.1 = m3 ∧ q.1.2.2.1 = y3 ∧ q.1.2.2.2.1 = g' ∧ q.1.2.2.2.2.1 = f ∧ q.1.2.2.2.2.2.1 = (if bitOp .and .i64 e 1 = 1 then 5 else 1) ∧ H6 = H5, ?_, ?_⟩
  · refine ⟨by omega, br (fun a => ?_) fun a => ?_⟩
    all_goals simp only [true_and, and_true, bne_iff_ne, ne_eq, bne_eq_false_iff_eq, and_one, tmod2] at *
    · rw [if_pos (by omega)]
    · rw [if_neg (by omega)]
  rintro ⟨⟨o4, m4, y4, g4, f', r, _⟩, _, _⟩ H6 ⟨a1, a2, a3, a4, a5, a6, rfl⟩
  simp only at a1 a2 a3 a4 a5 a6
  subst a1 a2 a3 a4 a5 a6
  simp only
  have key : ∀ (a : Int) (b : Bool), a = g4 → b = y4 → ∀ (n1 n2 : Int) (b1 : Bool), (b1 = true → Ok s z ∧ (9 ≤ k ∧ k < 9 + s * z) ∧ n1 = (k - 9) / z ∧ n2 = (k - 9) % z) → (b1 = false → ¬ (Ok s z ∧ 9 ≤ k ∧ k < 9 + s * z) ∧ n1 = 0 ∧ n2 = 0) →
      (decide (k < 9) = true → (!b1) = true ∧ (n1 == 0) = true ∧ (n2 == 0) = true) ∧ (decide (k < 9) = false → decide (k ≥ m4) = true → (!b1) = true ∧ (n1 == 0) = true ∧ (n2 == 0) = true) ∧
      (decide (k < 9) = false → decide (k ≥ m4) = false → b1 = true ∧ (IntKind.wrap IntKind.i64 (IntKind.wrap IntKind.i64 (n1 * z) + n2) == IntKind.wrap IntKind.i64 (k - 9)) = true ∧ decide (n2 ≥ 0) = true ∧ decide (n2 < z) = true) := by
    intro a b ha hb n1 n2 b1 h1 h2
    have hm : Ok s z → m4 = 9 + s * z := m1
    have hm2 : ¬ Ok s z → m4 = 0 := m2
    cases b1 with
    | false =>
      obtain ⟨q1, q2, q3⟩ := h2 rfl
      simp only [decide_eq_true_eq, decide_eq_false_iff_not, Bool.not_false, beq_iff_eq, true_and]
      refine ⟨fun _ => ⟨q2, q3⟩, fun _ _ => ⟨q2, q3⟩, fun h3 h4 => ?_⟩
      exfalso
      by_cases ok' : Ok s z
      · have := hm ok'; exact q1 ⟨ok', by omega, by omega⟩
      · have := hm2 ok'; omega
    | true =>
      obtain ⟨q1, q2, q3, q4⟩ := h1 rfl
      have := hm q1
      have z1 := q1.2
      have e1 : s * z ≤ 32 * 32 := Int.mul_le_mul (by unfold Ok at q1; omega) (by unfold Ok at q1; omega) (by omega) (by omega)
      have e2 : (k - 9) / z * z + (k - 9) % z = k - 9 := Int.ediv_mul_add_emod (k - 9) z
      have e3 : 0 ≤ (k - 9) % z := Int.emod_nonneg _ (by omega)
      have e4 : (k - 9) % z < z := Int.emod_lt_of_pos _ (by omega)
      have e5 : 0 ≤ (k - 9) / z * z := Int.mul_nonneg (Int.ediv_nonneg (by omega) (by omega)) (by omega)
      simp only [decide_eq_true_eq, decide_eq_false_iff_not, Bool.not_true, Bool.false_eq_true, false_and, beq_iff_eq, true_and, q3, q4]
      refine ⟨fun h3 => by omega, fun _ h4 => by omega, fun _ _ => ⟨?_, by omega, by omega⟩⟩
      rw [IntWalk.i64_in ((k - 9) / z * z) (by omega), IntWalk.i64_in _ (by omega), IntWalk.i64_in (k - 9) (by omega)]
      exact e2
  refine s13 s z i n (fun ok' hi hn => ⟨_, _, rfl, ?_⟩) fun hno => ⟨_, _, rfl, ?_⟩
  case' refine_1 =>
    have q : Inn s z i n := ⟨ok', hi, hn⟩
    have ey : true = y4 := (hy.2 q).symm
    have eg : 9 + i * z + n = g4 := (g1 q).symm
  case' refine_2 =>
    have ey : false = y4 := by
      cases hq : y4 with
      | false => rfl
      | true => exact absurd (hy.1 hq) hno
    have eg : (0 : Int) = g4 := (g2 hno).symm
  all_goals refine s14 s z k (fun ok2 k1 k2 => ⟨_, _, _, rfl, ?_⟩) fun kno => ⟨_, _, _, rfl, ?_⟩
  all_goals refine s15 s z fun c hc => ⟨c, rfl, ?_⟩
  all_goals rw [show (!((c == 0) == o4)) = false by rw [show (c == 0) = o4 from eqb (by rw [beq_iff_eq, hc, ok])]; simp]
  all_goals refine s16 s z fun d hd1 hd2 => ⟨d, rfl, ?_⟩
  all_goals rw [show (d != m4) = false by
    by_cases ok' : Ok s z
    · rw [hd1 ok', m1 ok']; simp
    · rw [hd2 ok', m2 ok']; simp]
  all_goals refine s17 s z i fun d hd1 hd2 => ⟨d, rfl, ?_⟩
  all_goals rw [show (d != f') = false by
    by_cases ok' : Ok s z ∧ 0 ≤ i ∧ i < s
    · rw [hd1 ok'.1 ok'.2, f1 ok'.1 ok'.2]; simp
    · rw [hd2 ok', f2 ok']; simp]
  all_goals subst eg ey
  all_goals simp only [bne_self_eq_false, beq_self_eq_true, Bool.not_true, br_false]
  all_goals refine s18 e ?_
  all_goals refine ⟨_, rfl, ?_⟩
  all_goals simp only [bne_self_eq_false, br_false, br_true, Bool.not_false]
  all_goals first
    | (obtain ⟨K1, K2, K3⟩ := key _ _ rfl rfl 0 0 false (fun h => by cases h) (fun _ => ⟨kno, rfl, rfl⟩)
       exact br (fun a => h) fun a => br (fun b => h) fun b => by simpa using (K3 a b).1)
    | (obtain ⟨K1, K2, K3⟩ := key _ _ rfl rfl ((k - 9) / z) ((k - 9) % z) true (fun _ => ⟨ok2, ⟨k1, k2⟩, rfl, rfl⟩) (fun h => by cases h)
       refine br (fun a => by simpa using (K1 a).1) fun a => br (fun b => by simpa using (K2 a b).1) fun b => ?_
       obtain ⟨_, q2, q3, q4⟩ := K3 a b
       rw [q2, q3, q4]
       exact h)
end
end Go.Proofs.Ytjlnkihkabljbaa.Lay
