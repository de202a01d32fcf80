/- Layout. -/
import Derived.Test.YtjlnkihkabljbaaSxR
import Derived.Test.YtjlnkihkabljbaaRows
namespace Go.Proofs.Ytjlnkihkabljbaa.Lay
open Go Sx Go.RowKit Go.ChangeShapes Go.WideShapes
open Go.Proofs.Try
set_option linter.unusedVariables false
set_option linter.unusedSimpArgs false
set_option maxRecDepth 100000
def nf_f12 (R : Ending → Heap → Prop) (H : Heap) : Prop :=
  Meets prog 16 [Value.agg { toList := [Value.int IntKind.i64 6, Value.int IntKind.i64 4] }] H
  fun (e : Ending) (H' : Heap) ↦
  ∃ (n : Int),
    e = Ending.returned (Value.int IntKind.i64 n) ∧
      Br (n == 33)
        (Meets prog 18 [Value.int IntKind.i64 3] H' fun (e : Ending) (H' : Heap) ↦
          ∃ (n : Int), e = Ending.returned (Value.int IntKind.i64 n) ∧ R (Ending.returned (Value.bool (n == 5))) H')
        (R (Ending.returned (Value.bool false)) H')
theorem vc_f12 (R : Ending → Heap → Prop) (H : Heap) : vcFun prog { } f12 [] R H = nf_f12 R H := by kernel_rfl
def nf_f13 (s : Int) (z : Int) (i : Int) (n : Int) (R : Ending → Heap → Prop) (H : Heap) : Prop :=
  Meets prog 15 [Value.agg { toList := [Value.int IntKind.i64 s, Value.int IntKind.i64 z] }] H
  fun (e : Ending) (H' : Heap) ↦
  ∃ (n_1 : Int),
    e = Ending.returned (Value.int IntKind.i64 n_1) ∧
      Br (n_1 != 0) (R (Ending.returned (Value.tuple { toList := [Value.int IntKind.i64 0, Value.bool false] })) H')
        (Meets prog 32 [Value.int IntKind.i64 i, Value.int IntKind.i64 s] H' fun (e : Ending) (H' : Heap) ↦
          ∃ (b : Bool),
            e = Ending.returned (Value.bool b) ∧
              Br (!b) (R (Ending.returned (Value.tuple { toList := [Value.int IntKind.i64 0, Value.bool false] })) H')
                (Meets prog 32 [Value.int IntKind.i64 n, Value.int IntKind.i64 z] H' fun (e : Ending) (H' : Heap) ↦
                  ∃ (b : Bool),
                    e = Ending.returned (Value.bool b) ∧
                      Br (!b)
                        (R (Ending.returned (Value.tuple { toList := [Value.int IntKind.i64 0, Value.bool false] })) H')
                        (R
                          (Ending.returned
                            (Value.tuple
                              {
                                toList :=
                                  [Value.int IntKind.i64
                                      (IntKind.wrap IntKind.i64
                                        (IntKind.wrap IntKind.i64 (9 + IntKind.wrap IntKind.i64 (i * z)) + n)),
                                    Value.bool true] }))
                          H')))
theorem vc_f13 (s : Int) (z : Int) (i : Int) (n : Int) (R : Ending →
  Heap →
    Prop) (H : Heap) : vcFun prog { } f13
  [SV.agg [Seg.c (SC.v (Value.int IntKind.i64 s)), Seg.c (SC.v (Value.int IntKind.i64 z))],
    SV.c (SC.v (Value.int IntKind.i64 i)), SV.c (SC.v (Value.int IntKind.i64 n))]
  R H = nf_f13 s z i n R H := by kernel_rfl
def nf_f15 (s : Int) (z : Int) (R : Ending → Heap → Prop) (H : Heap) : Prop :=
  Br (decide (s < 6)) (R (Ending.returned (Value.int IntKind.i64 4)) H)
  (Br (decide (s > 32)) (R (Ending.returned (Value.int IntKind.i64 4)) H)
    (Br (decide (z < 4)) (R (Ending.returned (Value.int IntKind.i64 4)) H)
      (Br (decide (z > 32)) (R (Ending.returned (Value.int IntKind.i64 4)) H)
        (R (Ending.returned (Value.int IntKind.i64 0)) H))))
theorem vc_f15 (s : Int) (z : Int) (R : Ending →
  Heap →
    Prop) (H : Heap) : vcFun prog { } f15
  [SV.agg [Seg.c (SC.v (Value.int IntKind.i64 s)), Seg.c (SC.v (Value.int IntKind.i64 z))]] R
  H = nf_f15 s z R H := by kernel_rfl
def nf_f16 (s : Int) (z : Int) (R : Ending → Heap → Prop) (H : Heap) : Prop :=
  Meets prog 15 [Value.agg { toList := [Value.int IntKind.i64 s, Value.int IntKind.i64 z] }] H
  fun (e : Ending) (H' : Heap) ↦
  ∃ (n : Int),
    e = Ending.returned (Value.int IntKind.i64 n) ∧
      Br (n != 0) (R (Ending.returned (Value.int IntKind.i64 0)) H')
        (R (Ending.returned (Value.int IntKind.i64 (IntKind.wrap IntKind.i64 (9 + IntKind.wrap IntKind.i64 (s * z)))))
          H')
theorem vc_f16 (s : Int) (z : Int) (R : Ending →
  Heap →
    Prop) (H : Heap) : vcFun prog { } f16
  [SV.agg [Seg.c (SC.v (Value.int IntKind.i64 s)), Seg.c (SC.v (Value.int IntKind.i64 z))]] R
  H = nf_f16 s z R H := by kernel_rfl
def nf_f17 (s : Int) (z : Int) (i : Int) (R : Ending → Heap → Prop) (H : Heap) : Prop :=
  Meets prog 13
  [Value.agg { toList := [Value.int IntKind.i64 s, Value.int IntKind.i64 z] }, Value.int IntKind.i64 i,
    Value.int IntKind.i64 0]
  H fun (e : Ending) (H' : Heap) ↦
  ∃ (n : Int),
    ∃ (b : Bool),
      e = Ending.returned (Value.tuple { toList := [Value.int IntKind.i64 n, Value.bool b] }) ∧
        R (Ending.returned (Value.int IntKind.i64 n)) H'
theorem vc_f17 (s : Int) (z : Int) (i : Int) (R : Ending →
  Heap →
    Prop) (H : Heap) : vcFun prog { } f17
  [SV.agg [Seg.c (SC.v (Value.int IntKind.i64 s)), Seg.c (SC.v (Value.int IntKind.i64 z))],
    SV.c (SC.v (Value.int IntKind.i64 i))]
  R H = nf_f17 s z i R H := by kernel_rfl
def nf_f18 (i : Int) (R : Ending → Heap → Prop) (H : Heap) : Prop :=
  Br (bitOp BinOp.and IntKind.i64 i 1 == 1) (R (Ending.returned (Value.int IntKind.i64 5)) H)
  (R (Ending.returned (Value.int IntKind.i64 1)) H)
theorem vc_f18 (i : Int) (R : Ending →
  Heap →
    Prop) (H : Heap) : vcFun prog { } f18 [SV.c (SC.v (Value.int IntKind.i64 i))] R H = nf_f18 i R H := by kernel_rfl
def nf_f32 (i : Int) (n : Int) (R : Ending → Heap → Prop) (H : Heap) : Prop :=
  Br (decide (i ≥ 0)) (R (Ending.returned (Value.bool (decide (i < n)))) H) (R (Ending.returned (Value.bool false)) H)
theorem vc_f32 (i : Int) (n : Int) (R : Ending →
  Heap →
    Prop) (H : Heap) : vcFun prog { } f32 [SV.c (SC.v (Value.int IntKind.i64 i)), SV.c (SC.v (Value.int IntKind.i64 n))]
  R H = nf_f32 i n R H := by kernel_rfl
def nf_f3 (s : Int) (z : Int) (i : Int) (n : Int) (j : Int) (m : Int) (R : Ending → Heap → Prop) (H : Heap) : Prop :=
  Meets prog 12 [] H fun (e : Ending) (H' : Heap) ↦
  ∃ (b : Bool),
    e = Ending.returned (Value.bool b) ∧
      Br (!b) (R (Ending.returned (Value.bool false)) H')
        (Meets prog 13
          [Value.agg { toList := [Value.int IntKind.i64 s, Value.int IntKind.i64 z] }, Value.int IntKind.i64 i,
            Value.int IntKind.i64 n]
          H' fun (e : Ending) (H' : Heap) ↦
          ∃ (n_1 : Int),
            ∃ (b : Bool),
              e = Ending.returned (Value.tuple { toList := [Value.int IntKind.i64 n_1, Value.bool b] }) ∧
                Meets prog 13
                  [Value.agg { toList := [Value.int IntKind.i64 s, Value.int IntKind.i64 z] }, Value.int IntKind.i64 j,
                    Value.int IntKind.i64 m]
                  H' fun (e : Ending) (H' : Heap) ↦
                  ∃ (n_2 : Int),
                    ∃ (b_1 : Bool),
                      e = Ending.returned (Value.tuple { toList := [Value.int IntKind.i64 n_2, Value.bool b_1] }) ∧
                        Br (!b) (R (Ending.returned (Value.bool true)) H')
                          (Br (!b_1) (R (Ending.returned (Value.bool true)) H')
                            (Br (i == j) (R (Ending.returned (Value.bool ((n_1 == n_2) == (n == m)))) H')
                              (R (Ending.returned (Value.bool ((n_1 == n_2) == false))) H'))))
theorem vc_f3 (s : Int) (z : Int) (i : Int) (n : Int) (j : Int) (m : Int) (R : Ending →
  Heap →
    Prop) (H : Heap) : vcFun prog { } f3
  [SV.agg [Seg.c (SC.v (Value.int IntKind.i64 s)), Seg.c (SC.v (Value.int IntKind.i64 z))],
    SV.c (SC.v (Value.int IntKind.i64 i)), SV.c (SC.v (Value.int IntKind.i64 n)), SV.c (SC.v (Value.int IntKind.i64 j)),
    SV.c (SC.v (Value.int IntKind.i64 m))]
  R H = nf_f3 s z i n j m R H := by kernel_rfl
abbrev vi (n : Int) : Value := .int .i64 n
abbrev geo (s z : Int) : Value := .agg #[.int .i64 s, .int .i64 z]
def Ok (s z : Int) : Prop := (6 ≤ s ∧ s ≤ 32) ∧ 4 ≤ z ∧ z ≤ 32
section
variable {R : Ending → Heap → Prop} {H : Heap}
theorem s15 (s z : Int) (h : ∀ e : Int, (e = 0 ↔ Ok s z) → R (.returned (vi e)) H) : Meets prog 15 [geo s z] H R := by
  refine spec_of func15 (by kernel_rfl) noEqs ?_ (vc_f15 s z R H) ?_
  · simp [argsR, SV.rep, SC.rep, SegsRep, one]
  unfold nf_f15
  refine br (fun h1 => h 4 ?_) fun h1 => br (fun h2 => h 4 ?_) fun h2 => br (fun h3 => h 4 ?_) fun h3 => br (fun h4 => h 4 ?_) fun h4 => h 0 ?_
  all_goals simp only [decide_eq_true_eq, decide_eq_false_iff_not] at h1
  all_goals try simp only [decide_eq_true_eq, decide_eq_false_iff_not] at h2
  all_goals try simp only [decide_eq_true_eq, decide_eq_false_iff_not] at h3
  all_goals try simp only [decide_eq_true_eq, decide_eq_false_iff_not] at h4
  all_goals unfold Ok
  all_goals omega
theorem s32 (i n : Int) (h : ∀ b : Bool, (b = true ↔ 0 ≤ i ∧ i < n) → R (.returned (.bool b)) H) : Meets prog 32 [vi i, vi n] H R := by
  refine spec_of func32 (by kernel_rfl) noEqs ?_ (vc_f32 i n R H) ?_
  · simp [argsR, SV.rep, SC.rep, SegsRep, one]
  unfold nf_f32
  refine br (fun h1 => h _ ?_) fun h1 => h _ ?_
  all_goals (simp only [decide_eq_true_eq, decide_eq_false_iff_not] at *; first | omega | simp; omega)
theorem s13 (s z i n : Int) (h1 : Ok s z → (0 ≤ i ∧ i < s) → (0 ≤ n ∧ n < z) → R (.returned (.tuple #[vi (9 + i * z + n), .bool true])) H)
    (h2 : ¬ (Ok s z ∧ (0 ≤ i ∧ i < s) ∧ (0 ≤ n ∧ n < z)) → R (.returned (.tuple #[vi 0, .bool false])) H) : Meets prog 13 [geo s z, vi i, vi n] H R := by
  refine spec_of func13 (by kernel_rfl) noEqs ?_ (vc_f13 s z i n R H) ?_
  · simp [argsR, SV.rep, SC.rep, SegsRep, one]
  unfold nf_f13
  refine s15 s z fun e he => ⟨e, rfl, br (fun k => h2 ?_) fun k => s32 i s fun b hb => ⟨b, rfl, br (fun k2 => h2 ?_) fun k2 => s32 n z fun c hc => ⟨c, rfl, br (fun k3 => h2 ?_) fun k3 => ?_⟩⟩⟩
  · simp at k; exact fun q => k (he.2 q.1)
  · simp at k2; subst k2; exact fun q => by simpa using hb.2 q.2.1
  · simp at k3; subst k3; exact fun q => by simpa using hc.2 q.2.2
  · simp at k k2 k3
    have ok := he.1 k
    have hi := hb.1 k2
    have hn := hc.1 k3
    have e1 : 0 ≤ i * z ∧ i * z ≤ 32 * 32 := ⟨Int.mul_nonneg hi.1 (by unfold Ok at ok; omega), Int.mul_le_mul (by unfold Ok at ok; omega) (by unfold Ok at ok; omega) (by unfold Ok at ok; omega) (by omega)⟩
    have z1 := ok.2.2
    rw [IntWalk.i64_in (i * z) (by omega), IntWalk.i64_in (9 + i * z) (by omega), IntWalk.i64_in _ (by omega)]
    exact h1 ok hi hn
theorem s16 (s z : Int) (h : ∀ n : Int, (Ok s z → n = 9 + s * z) → (¬ Ok s z → n = 0) → R (.returned (vi n)) H) : Meets prog 16 [geo s z] H R := by
  refine spec_of func16 (by kernel_rfl) noEqs ?_ (vc_f16 s z R H) ?_
  · simp [argsR, SV.rep, SC.rep, SegsRep, one]
  unfold nf_f16
  refine s15 s z fun e he => ⟨e, rfl, br (fun k => h _ ?_ ?_) fun k => h _ ?_ ?_⟩
  · simp at k; exact fun q => absurd (he.2 q) k
  · simp
  · simp at k
    intro ok
    have e1 : 0 ≤ s * z ∧ s * z ≤ 32 * 32 := ⟨Int.mul_nonneg (by unfold Ok at ok; omega) (by unfold Ok at ok; omega), Int.mul_le_mul (by unfold Ok at ok; omega) (by unfold Ok at ok; omega) (by unfold Ok at ok; omega) (by omega)⟩
    rw [IntWalk.i64_in (s * z) (by omega), IntWalk.i64_in _ (by omega)]
  · simp at k
    exact fun q => absurd (he.1 k) q
theorem s18 (i : Int) (h : R (.returned (vi (if bitOp .and .i64 i 1 = 1 then 5 else 1))) H) : Meets prog 18 [vi i] H R := by
  refine spec_of func18 (by kernel_rfl) noEqs ?_ (vc_f18 i R H) ?_
  · simp [argsR, SV.rep, SC.rep, SegsRep, one]
  unfold nf_f18
  refine br (fun k => ?_) fun k => ?_
  · simp at k; rwa [if_pos k] at h
  · simp at k; rwa [if_neg k] at h
theorem s12 (h : R (.returned (.bool true)) H) : Meets prog 12 [] H R := by
  refine spec_of func12 (by kernel_rfl) noEqs (by simp [argsR]) (vc_f12 R H) ?_
  unfold nf_f12
  refine s16 6 4 fun n hn _ => ⟨n, rfl, ?_⟩
  have := hn (by unfold Ok; omega)
  subst this
  exact s18 3 ⟨5, rfl, h⟩
theorem s3 (s z i n j m : Int) (h : R (.returned (.bool true)) H) : Meets prog 3 [geo s z, vi i, vi n, vi j, vi m] H R := by
  refine spec_of func3 (by kernel_rfl) noEqs ?_ (vc_f3 s z i n j m R H) ?_
  · simp [argsR, SV.rep, SC.rep, SegsRep, one]
  unfold nf_f3
  refine s12 ⟨true, rfl, ?_⟩
  simp only [Bool.not_true, br_false]
  refine s13 s z i n (fun ok hi hn => ⟨_, _, rfl, ?_⟩) fun _ => ⟨_, _, rfl, ?_⟩
  · refine s13 s z j m (fun _ hj hm => ⟨_, _, rfl, ?_⟩) fun _ => ⟨_, _, rfl, ?_⟩
    · simp only [Bool.not_true, br_false]
      refine br (fun e => ?_) fun e => ?_
      · simp at e; subst e
        have : ((9 + i * z + n == 9 + i * z + m) == (n == m)) = true := by
          by_cases e : n = m
          · simp [e]
          · have e2 : (9 + i * z + n == 9 + i * z + m) = false := by simp; omega
            rw [e2]; simp [e]
        rw [this]; exact h
      · simp at e
        have : (9 + i * z + n == 9 + j * z + m) = false := by
          simp
          intro e2
          rcases Int.lt_or_gt_of_ne e with lt | lt
          · have := Int.mul_le_mul_of_nonneg_right (show i + 1 ≤ j by omega) (show 0 ≤ z by omega)
            rw [Int.add_mul] at this; omega
          · have := Int.mul_le_mul_of_nonneg_right (show j + 1 ≤ i by omega) (show 0 ≤ z by omega)
            rw [Int.add_mul] at this; omega
        rw [this]; exact h
    · simpa using h
  · refine s13 s z j m (fun _ hj hm => ⟨_, _, rfl, ?_⟩) fun _ => ⟨_, _, rfl, ?_⟩ <;> simpa using h
end
end Go.Proofs.Ytjlnkihkabljbaa.Lay
namespace Go.Proofs.Ytjlnkihkabljbaa.Lay
open Go Sx Go.RowKit Go.ChangeShapes Go.WideShapes
theorem own : ownKnob Try.prog.godebug = none := by kernel_rfl
theorem laidOut : laidOutB Try.prog = true := by kernel_rfl
section
variable {H : Type} {enc : TypeId × Value → H} {W : World}
theorem openInt {v : Value} {d : DataW H} {ps : List MemPlace} {base : Nat} (hv : Value.okWide Try.prog W .any base 3 v) (h : DataW.Trod enc Try.prog W 0 (fun _ => true) true 3 v d ps) : ∃ n, v = .int .i64 n ∧ -9223372036854775808 ≤ n ∧ n ≤ 9223372036854775807 := by
  obtain ⟨n, rfl, _, _, hw⟩ := open_int Try.underlying3 hv h
  exact ⟨n, rfl, bounds_i64 hw⟩
theorem openGeo {v : Value} {d : DataW H} {ps : List MemPlace} {base : Nat} (hv : Value.okWide Try.prog W .any base 23 v) (h : DataW.Trod enc Try.prog W 0 (fun _ => true) true 23 v d ps) :
    ∃ s z, v = geo s z ∧ (-9223372036854775808 ≤ s ∧ s ≤ 9223372036854775807) ∧ -9223372036854775808 ≤ z ∧ z ≤ 9223372036854775807 := by
  obtain ⟨v0, v1, y0, y1, n, rfl, _, _, h0, h1⟩ := Go.Joins.open_agg2 Try.underlying23 (by kernel_rfl) (by kernel_rfl) hv h
  obtain ⟨s, e0, _, w0⟩ := DataW.trod_int Try.underlying3 h0
  obtain ⟨z, e1, _, w1⟩ := DataW.trod_int Try.underlying3 h1
  cases e0; cases e1
  exact ⟨s, z, rfl, bounds_i64 w0, bounds_i64 w1⟩
end
end Go.Proofs.Ytjlnkihkabljbaa.Lay
namespace Go.Proofs.Ytjlnkihkabljbaa.layoutApart
open Lay Go Sx Go.RowKit Go.ChangeShapes Go.WideShapes
theorem lifted (os : Os) (started : os.Started) (H : Type) (enc : TypeId × Value → H) :
    ReturnsInHanded {} Try.checked os 3 .any (Rows.layoutApartSpec.pre6 enc Try.prog Try.f3 Rows.layoutApartRow.domain false) (Rows.layoutApartSpec.post enc Try.prog Try.f3 false true false false) := by
  refine lifted_of (C := Try.checked) (b := 4) own started (by kernel_rfl) Try.func3
    (ChangeSpec.witness6 (enc := enc) (C := Try.checked) false ⟨#[], #[geo 0 0, .int .i64 0, .int .i64 0, .int .i64 0, .int .i64 0], []⟩ 8 (by kernel_rfl) (by kernel_rfl) (by kernel_rfl) (by kernel_rfl))
    laidOut (by kernel_rfl) rfl Try.underlying4 rfl ?_ ?_
  · intro ds hd
    match ds, hd with
    | [d1, d2, d3, d4, d5], _ => rfl
  intro W base args ds p hval hA _ _
  have hA : DataW.TrodAll enc Try.prog W 0 (fun _ => true) true Try.f3.params.toList args.toList ds p := hA
  rw [Try.params3] at hA
  obtain ⟨v0, vs0, d0, ds0, p0, q0, hargs, rfl, rfl, h0, r0⟩ := trodAll_cons hA
  obtain ⟨v1, vs1, d1, ds1, p1, q1, rfl, rfl, rfl, h1, r1⟩ := trodAll_cons r0
  obtain ⟨v2, vs2, d2, ds2, p2, q2, rfl, rfl, rfl, h2, r2⟩ := trodAll_cons r1
  obtain ⟨v3, vs3, d3, ds3, p3, q3, rfl, rfl, rfl, h3, r3⟩ := trodAll_cons r2
  obtain ⟨v4, vs4, d4, ds4, p4, q4, rfl, rfl, rfl, h4, r4⟩ := trodAll_cons r3
  obtain ⟨rfl, rfl, rfl⟩ := trodAll_nil r4
  obtain rfl : args = #[v0, v1, v2, v3, v4] := by cases args; simp_all
  obtain ⟨s, z, rfl, _⟩ := openGeo (hval 0 23 v0 rfl rfl) h0
  obtain ⟨i, rfl, _⟩ := openInt (hval 1 3 v1 rfl rfl) h1
  obtain ⟨n, rfl, _⟩ := openInt (hval 2 3 v2 rfl rfl) h2
  obtain ⟨j, rfl, _⟩ := openInt (hval 3 3 v3 rfl rfl) h3
  obtain ⟨m, rfl, _⟩ := openInt (hval 4 3 v4 rfl rfl) h4
  exact s3 s z i n j m ⟨rfl, heap_refl _⟩
theorem over : Rows.layoutApartRow.holds Try.pinned (OpenSpec.ofChange Rows.layoutApartSpec) :=
  OpenClaim.holds_of_wide 3 Try.f3 rfl rfl rfl rfl rfl rfl rfl ⟨rfl, rfl, rfl, rfl, rfl⟩ rfl rfl rfl rfl rfl (by kernel_rfl) Try.func3 (by kernel_rfl)
    (of_decide_eq_true (by kernel_rfl)) (by unfold Func.isWrapper; first | (rw [if_pos (by decide +kernel)]; kernel_rfl) | (rw [if_neg (by decide +kernel)]; exact ⟨rfl, rfl⟩))
    (fun os started H enc _ => lifted os started H enc)
theorem proved : Rows.LayoutApartSaid := over
#print axioms proved
end Go.Proofs.Ytjlnkihkabljbaa.layoutApart
