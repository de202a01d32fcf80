/- Own texts, one behind the other: Q4, Q5. -/
import Derived.Deep.Slices
import Derived.Test.YtpaijacgdjldeaaRows
import Derived.Test.YtpaijacgdjldeaaZ3
set_option linter.unusedVariables false
set_option linter.unusedSimpArgs false
namespace Po
open Go Sx
open Go.Proofs.Try
set_option maxRecDepth 100000
section
variable {H : Heap} {R : Ending → Heap → Prop} {p : Addr} {c : Nat} {l : List Int}
theorem pool_known (h : PoolAt H p c l) {q : Nat} (e : H q = none) : q ≠ p.block ∧ q ≠ c := by
  obtain ⟨sd, rc, hc⟩ := h.ch
  refine ⟨?_, fun e1 => by rw [e1, hc] at e; cases e⟩
  intro e1
  have := h.has 0 _ rfl
  unfold Heap.cell? at this
  have e2 : (p.add 0).block = p.block := rfl
  rw [e2, ← e1, e] at this
  cases this
theorem sub_all {a : Option Addr} {n c : Nat} {m : Nat} (h : SliceAt H (.slice a n c) 1 (cells l)) (hm : m ≤ n) : SliceAt H (.slice (subAddr a c 0 1) m (c - 0)) 1 (cells (l.take m)) := by
  have e : subAddr a c 0 1 = a := by
    unfold subAddr
    split
    · rfl
    · cases a <;> rfl
  rw [e]
  obtain ⟨a', n', c', e1, h1, h2, h3, h4, h5⟩ := h
  cases e1
  have hl : l.length = n := by simpa [cells] using h1
  have ht : cells (l.take m) = (cells l).take m := by simp [cells, List.map_take]
  refine ⟨a, m, c, rfl, by simp [cells]; omega, by omega, fun e he => ?_, fun e he => ?_, fun i e he => ?_⟩
  · rw [ht] at he; exact h3 e (List.mem_of_mem_take he)
  · rw [ht] at he; exact h4 e (List.mem_of_mem_take he)
  · rw [ht] at he
    refine h5 i e ?_
    have hi : i < m := by have := (List.getElem?_eq_some_iff.1 he).1; simp at this; omega
    rwa [List.getElem?_take_of_lt hi] at he
theorem s_lapart {v : Value} {x : Int} (h : SliceAt H v 1 (cells l)) (hl : l.length ≤ 20000000000000) (k : ∀ H', H ≤ H' → R (.returned (.bool true)) H') : Meets prog 5 [v, vi x] H R := by
  obtain ⟨a, n, cp, e, hm⟩ := h
  subst e
  have h : SliceAt H (.slice a n cp) 1 (cells l) := ⟨a, n, cp, rfl, hm⟩
  have hln : l.length = n := by simpa [cells] using hm.1
  refine spec_of func5 (by kernel_rfl) (fun t h => by cases h) ?_ (vc_lapart a n cp x R H) ?_
  · simp [argsR, SV.rep, SC.rep, one]
  unfold nf_lapart
  refine s_alive15 fun H0 hk0 => ⟨_, rfl, br (fun q => by cases q) fun _ => br (fun q => ?_) fun q => ?_⟩
  · simp only [gt_iff_lt, decide_eq_true_eq] at q
    have hcn := (slice_len h).2
    refine ⟨⟨by omega, by omega⟩, ?_⟩
    have hs := sub_all (m := 31) (sl_le h hk0) (by omega)
    have hL : (l.take 31).length ≤ 31 := by simp; omega
    have hL31 : (l.take 31).length = 31 := by simp; omega
    generalize l.take 31 = L at *
    generalize subAddr a cp 0 1 = A at *
    generalize cp - 0 = C at *

    refine s_pnew hs (by omega) fun b r H2 hle2 hb hr hne hall hP => ?_
    rw [List.take_of_length_le (by omega)] at hP
    refine ⟨_, rfl, s_pclone hP fun b3 r3 H3 hg3 hP3 hQ3 hrr hbr hb3 hr3 => ⟨_, rfl, s_pput hQ3 fun H4 hg4 hQ4 => ⟨_, rfl, ?_⟩⟩⟩
    have hP4 := pool_other hP3 hQ3.ch (Ne.symm hrr) hg4.chg
    have hs2 := sl_le hs hle2
    have hs3 := slice_chg hs2 hP.ch hg3
    have hs4 := slice_chg hs3 hQ3.ch hg4.chg
    rw [decide_eq_true (show L.length < 32 by omega)]
    refine br (fun q => by cases q) fun _ => s_pall hP4 fun v5 H5 hg5 hP5 hrow5 hf5 => ?_
    have hs5 := slice_chg hs4 hP4.ch hg5
    have hQ5 := pool_other hQ4 hP4.ch hrr hg5
    obtain ⟨a5, c5, rfl, ht5⟩ := row_sl hrow5
    refine ⟨_, _, _, rfl, s_ints ht5 hs5 (by omega) ⟨_, rfl, ?_⟩⟩
    rw [decide_eq_true rfl]
    refine br (fun _ => s_pall hQ5 fun v6 H6 hg6 hQ6 hrow6 hf6 => ?_) fun q => by cases q
    have hs6 := slice_chg hs5 hQ5.ch hg6
    have hP6 := pool_other hP5 hQ5.ch (Ne.symm hrr) hg6
    obtain ⟨a6, c6, rfl, ht6⟩ := row_sl hrow6
    have hlc : (cells L).length = L.length := by simp [cells]
    have hpl : putL L x = L ++ [x] := by unfold putL; rw [if_pos (by omega)]
    have hap : List.append (cells L) [[vi x]] = cells (L ++ [x]) := by simp [cells]
    refine ⟨_, _, _, rfl, cells L, hs6, by rw [hlc]; omega, by rw [hap]; simp [cells]; omega, fun v7 H7 hle7 hf7 hb7 hrow7 => ?_⟩
    have hrow8 : RowAt H7 v7 3 1 (cells (L ++ [x])) := by rw [← hap]; exact hrow7
    refine s_ints (sl_le ht6 hle7) (row_slice hrow8) (by rw [hpl]; simp; omega) ⟨_, rfl, _, hrow8, ?_⟩
    rw [decide_eq_true hpl]
    have hdel := pool_del (o := blockOf v7) (pool_le hP6 hle7) fun q e => pool_known hP6 (hf7 q e)
    refine br (fun _ => s_plen hdel ⟨_, rfl, ?_⟩) fun q => by cases q
    have fin : H0 ≤ Heap.delO H7 (blockOf v7) := fun b' o e => by
      have n1 : b' ≠ r := by rintro rfl; rw [hr] at e; cases e
      have e2 := hle2 _ _ e
      have n2 : b' ≠ r3 := by rintro rfl; rw [hr3] at e2; cases e2
      have e3 := hg3 _ _ n1 e2
      have e4 := hg4.chg _ _ n2 e3
      have e6 := hg6 _ _ n2 (hg5 _ _ n1 e4)
      have e7 := hle7 _ _ e6
      cases hv : blockOf v7 with
      | none => exact e7
      | some q => show (if b' = q then none else H7 b') = some o; rw [if_neg (by rintro rfl; rw [hf7 b' hv] at e6; cases e6)]; exact e7

    rw [hL31]
    exact k _ (heap_trans hk0 fin)
  · simp only [gt_iff_lt, decide_eq_false_iff_not] at q
    have hs := sl_le h hk0
    have hL : l.length ≤ 31 := by omega
    generalize l = L at *

    refine s_pnew hs (by omega) fun b r H2 hle2 hb hr hne hall hP => ?_
    rw [List.take_of_length_le (by omega)] at hP
    refine ⟨_, rfl, s_pclone hP fun b3 r3 H3 hg3 hP3 hQ3 hrr hbr hb3 hr3 => ⟨_, rfl, s_pput hQ3 fun H4 hg4 hQ4 => ⟨_, rfl, ?_⟩⟩⟩
    have hP4 := pool_other hP3 hQ3.ch (Ne.symm hrr) hg4.chg
    have hs2 := sl_le hs hle2
    have hs3 := slice_chg hs2 hP.ch hg3
    have hs4 := slice_chg hs3 hQ3.ch hg4.chg
    rw [decide_eq_true (show L.length < 32 by omega)]
    refine br (fun q => by cases q) fun _ => s_pall hP4 fun v5 H5 hg5 hP5 hrow5 hf5 => ?_
    have hs5 := slice_chg hs4 hP4.ch hg5
    have hQ5 := pool_other hQ4 hP4.ch hrr hg5
    obtain ⟨a5, c5, rfl, ht5⟩ := row_sl hrow5
    refine ⟨_, _, _, rfl, s_ints ht5 hs5 (by omega) ⟨_, rfl, ?_⟩⟩
    rw [decide_eq_true rfl]
    refine br (fun _ => s_pall hQ5 fun v6 H6 hg6 hQ6 hrow6 hf6 => ?_) fun q => by cases q
    have hs6 := slice_chg hs5 hQ5.ch hg6
    have hP6 := pool_other hP5 hQ5.ch (Ne.symm hrr) hg6
    obtain ⟨a6, c6, rfl, ht6⟩ := row_sl hrow6
    have hlc : (cells L).length = L.length := by simp [cells]
    have hpl : putL L x = L ++ [x] := by unfold putL; rw [if_pos (by omega)]
    have hap : List.append (cells L) [[vi x]] = cells (L ++ [x]) := by simp [cells]
    refine ⟨_, _, _, rfl, cells L, hs6, by rw [hlc]; omega, by rw [hap]; simp [cells]; omega, fun v7 H7 hle7 hf7 hb7 hrow7 => ?_⟩
    have hrow8 : RowAt H7 v7 3 1 (cells (L ++ [x])) := by rw [← hap]; exact hrow7
    refine s_ints (sl_le ht6 hle7) (row_slice hrow8) (by rw [hpl]; simp; omega) ⟨_, rfl, _, hrow8, ?_⟩
    rw [decide_eq_true hpl]
    have hdel := pool_del (o := blockOf v7) (pool_le hP6 hle7) fun q e => pool_known hP6 (hf7 q e)
    refine br (fun _ => s_plen hdel ⟨_, rfl, ?_⟩) fun q => by cases q
    have fin : H0 ≤ Heap.delO H7 (blockOf v7) := fun b' o e => by
      have n1 : b' ≠ r := by rintro rfl; rw [hr] at e; cases e
      have e2 := hle2 _ _ e
      have n2 : b' ≠ r3 := by rintro rfl; rw [hr3] at e2; cases e2
      have e3 := hg3 _ _ n1 e2
      have e4 := hg4.chg _ _ n2 e3
      have e6 := hg6 _ _ n2 (hg5 _ _ n1 e4)
      have e7 := hle7 _ _ e6
      cases hv : blockOf v7 with
      | none => exact e7
      | some q => show (if b' = q then none else H7 b') = some o; rw [if_neg (by rintro rfl; rw [hf7 b' hv] at e6; cases e6)]; exact e7

    rw [hln, beq_self_eq_true]
    exact k _ (heap_trans hk0 fin)
end
end Po

set_option linter.unusedVariables false
set_option linter.unusedSimpArgs false
namespace Po
open Go Sx
open Go.Proofs.Try
set_option maxRecDepth 100000
theorem own : ownKnob Go.Proofs.Try.prog.godebug = none := by kernel_rfl
theorem laidOut : laidOutB Go.Proofs.Try.prog = true := by kernel_rfl
section
variable {H : Type} {enc : TypeId × Value → H} {W : World}
theorem openI {v : Value} {d : DataW H} {ps : List MemPlace} {base : Nat} (hv : Value.okWide prog W .any base 3 v) (h : DataW.Trod enc prog W 0 (fun _ => true) true 3 v d ps) : ∃ a : Int, v = vi a := by
  obtain ⟨n, rfl, _, _, hw⟩ := Go.ChangeShapes.open_int Go.Proofs.Try.underlying3 hv h
  exact ⟨n, rfl⟩
theorem weigh {t : TypeId} {ts : List TypeId} {d : DataW H} {ds : List (DataW H)} {p : Nat → Bool} (h : (DataW.weightsEach prog (t :: ts) (d :: ds)).all p = true) : (d.weights prog t).all p = true ∧ (DataW.weightsEach prog ts ds).all p = true := by
  simp only [DataW.weightsEach, List.all_append, Bool.and_eq_true] at h
  exact h
theorem openInts {v : Value} {d : DataW H} {ps : List MemPlace} {base : Nat} (hv : Value.okWide prog W .any base 22 v) (h : DataW.Trod enc prog W 0 (fun _ => true) true 22 v d ps) :
    ∃ l : List Int, SliceAt (full W) v 1 (cells l) ∧ ((d.weights prog 22).all (· ≤ reachBytes) = true → l.length ≤ 20000000000000) := by
  obtain ⟨a, len, cap, rfl⟩ := Go.WideShapes.okWide_slice Go.Proofs.Try.underlying22 hv
  obtain ⟨fuel, hf⟩ := h
  rcases Go.Deep.open_slice Go.Proofs.Try.underlying22 hf with ⟨e, e2⟩ | ⟨A, ln, cp, m, n, D, Pl, e, hb, hl, hm, hmm, e2, hx⟩
  · cases e
    exact ⟨[], ⟨none, 0, 0, rfl, rfl, Nat.le_refl _, by simp [cells], by simp [cells], by simp [cells]⟩, by simp⟩
  · cases e
    obtain ⟨rfl, -⟩ := Prod.mk.inj e2
    simp only [if_true] at hmm
    subst hmm
    have hc : prog.cellsOf 3 = 1 := by kernel_rfl
    have hby : prog.bytesOf 3 = 8 := by kernel_rfl
    have pick : ∀ i, ∃ p : Int, i < len → (full W).has (A.add (i * 1)) [vi p] ∧ A.spot = none := fun i => by
      by_cases hi : i < len
      · obtain ⟨cs', h1, h2⟩ := hx i (by omega)
        rw [hc] at h1
        obtain ⟨p, e0, _, _⟩ := DataW.trod_int Go.Proofs.Try.underlying3 h2
        subst e0
        obtain ⟨_, h3, h4⟩ := World.cells?_some h1
        refine ⟨p, fun _ => ⟨?_, ?_⟩⟩
        · intro j x hj
          have hj4 : j < 1 := (List.getElem?_eq_some_iff.1 hj).1
          have := h4 j hj4
          rw [hj] at this
          exact this
        · obtain ⟨cs0, k1, k2⟩ := hx 0 (by omega)
          rw [hc] at k1
          obtain ⟨_, k3, k4⟩ := World.cells?_some k1
          have := k4 0 (by omega)
          have e0 : ∀ a : Addr, a.add 0 = a := fun _ => rfl
          simp only [Nat.zero_mul, e0] at this
          rw [List.getElem?_eq_getElem (by omega)] at this
          unfold World.cell? at this
          split at this
          · split at this
            · cases this
            · rename_i hs
              simpa using hs
          · cases this
      · exact ⟨default, fun h => absurd h hi⟩
    obtain ⟨f, hf⟩ := Classical.axiomOfChoice pick
    refine ⟨(List.range len).map f, ⟨some A, len, _, rfl, by simp [cells], hl, ?_, ?_, fun i e he => ?_⟩, fun hw => ?_⟩
    · intro e he
      simp only [cells, List.mem_map] at he
      obtain ⟨p, _, rfl⟩ := he
      rfl
    · intro e he
      simp only [cells, List.mem_map] at he
      obtain ⟨p, _, rfl⟩ := he
      intro x hx
      simp only [List.mem_singleton] at hx
      subst hx
      rfl
    · simp only [cells, List.getElem?_map] at he
      obtain ⟨p, hp, rfl⟩ := Option.map_eq_some_iff.1 he
      obtain ⟨i', hi', rfl⟩ := Option.map_eq_some_iff.1 hp
      have hlt := (List.getElem?_eq_some_iff.1 hi').1
      have hii : i' = i := by have := (List.getElem?_eq_some_iff.1 hi').2; simp at this; omega
      subst hii
      obtain ⟨g1, g2⟩ := hf i' (by simpa using hlt)
      exact ⟨A, rfl, g2, g1⟩
    · simp only [DataW.weights, Go.Proofs.Try.underlying22, List.all_cons, Bool.and_eq_true, decide_eq_true_eq, List.length_map, List.length_range, hby] at hw
      simp only [List.length_map, List.length_range]
      have := hw.1
      unfold reachBytes at this
      omega
end
end Po
