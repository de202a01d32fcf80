/- The grove: what is put, dropped, told, cloned; the empty tree. -/
import Derived.Test.YtekaopahienmgaaG1
set_option linter.unusedVariables false
set_option linter.unusedSimpArgs false
namespace Cr
open Go Sx Stb
open Go.Proofs.Try
set_option maxRecDepth 100000
def h_fresh : Hints := { loops := [(4, ⟨[0, 2, 3], [.f 4 (.int .i64)], []⟩)] }
def h_ids : Hints := { loops := [(5, ⟨[0, 2], [.row 3 3 1, .f 4 (.int .i64)], []⟩)] }
def h_gcl : Hints := { loops := [(5, ⟨[0, 2, 3, 11, 12], [.f 13 (.int .i64)], []⟩)] }
def nf_fresh (g : Option Addr) (R : Ending → Heap → Prop) (H : Heap) : Prop := Meets prog (67 : Nat) [Value.pointer g] H fun (e : Ending) (H' : Nat → Option Obj) ↦ ∃ (b : Bool), e = Ending.returned (Value.bool b) ∧ Br (!b) (R (Ending.returned (Value.tuple { toList := [Value.int IntKind.i64 (0 : Int), Value.int IntKind.i64 (9 : Int)] })) H') (g = g ∧ (0 : Int) = (0 : Int) ∧ (0 : Int) = (0 : Int) ∧ LoopP (fun (K : (Int × PUnit) × PUnit → (Nat → Option Obj) → Prop) (p : (Int × PUnit) × PUnit) (H : Nat → Option Obj) ↦ Br (decide (p.fst.fst < (256 : Int))) (PtrK g fun (a : Addr) ↦ PtrK (some a) fun (a : Addr) ↦ PtrK (some (Addr.add a (0 : Nat))) fun (a : Addr) ↦ ∃ (r : Option Nat), Heap.has H a [Value.map r] ∧ ∃ (b : Bool), ∃ (a : Option Addr), ∃ (n : Nat), ∃ (c : Nat), ∃ (n_1 : Int), ∃ (xs : List Int), List.length xs = (4 : Nat) ∧ ∃ (xs_1 : List Int), List.length xs_1 = (4 : Nat) ∧ ∃ (b_1 : Bool), LookAt H r IntKind.i64 p.fst.fst (Value.agg { toList := [Value.bool false, Value.slice none (0 : Nat) (0 : Nat), Value.int IntKind.i64 (0 : Int), Value.int IntKind.i64 (0 : Int), Value.int IntKind.i64 (0 : Int), Value.int IntKind.i64 (0 : Int), Value.int IntKind.i64 (0 : Int), Value.int IntKind.i64 (0 : Int), Value.int IntKind.i64 (0 : Int), Value.int IntKind.i64 (0 : Int), Value.int IntKind.i64 (0 : Int)] }) (Value.agg { toList := Value.bool b :: Value.slice a n c :: Value.int IntKind.i64 n_1 :: List.append (List.map (Value.int IntKind.i64) xs) (flatD [Seg.ints IntKind.i64 (4 : Nat) xs_1]) }) b_1 ∧ Br (!b_1) (R (Ending.returned (Value.tuple { toList := [Value.int IntKind.i64 p.fst.fst, Value.int IntKind.i64 (0 : Int)] })) H) (g = g ∧ (0 : Int) = (0 : Int) ∧ (0 : Int) = (0 : Int) ∧ K ((IntKind.wrap IntKind.i64 (p.fst.fst + (1 : Int)), PUnit.unit), PUnit.unit) H)) (R (Ending.returned (Value.tuple { toList := [Value.int IntKind.i64 (0 : Int), Value.int IntKind.i64 (10 : Int)] })) H)) (((1 : Int), PUnit.unit), PUnit.unit) H')
theorem vc_fresh (g : Option Addr) (R : Ending → Heap → Prop) (H : Heap) : vcFun prog h_fresh f51 [SV.c (SC.v (Value.pointer g))] R H = nf_fresh g R H := by kernel_rfl

def nf_ids (g : Option Addr) (R : Ending → Heap → Prop) (H : Heap) : Prop := Meets prog (67 : Nat) [Value.pointer g] H fun (e : Ending) (H' : Nat → Option Obj) ↦ ∃ (b : Bool), e = Ending.returned (Value.bool b) ∧ Br (!b) (R (Ending.returned (Value.slice none (0 : Nat) (0 : Nat))) H') (g = g ∧ (none : Option Addr) = none ∧ (0 : Nat) = (0 : Nat) ∧ (0 : Nat) = (0 : Nat) ∧ LoopP (fun (K : (List (List Value) × Int × PUnit) × PUnit → (Nat → Option Obj) → Prop) (p : (List (List Value) × Int × PUnit) × PUnit) (H : Nat → Option Obj) ↦ Br (decide (p.fst.snd.fst < (256 : Int))) (PtrK g fun (a : Addr) ↦ PtrK (some a) fun (a : Addr) ↦ PtrK (some (Addr.add a (0 : Nat))) fun (a : Addr) ↦ ∃ (r : Option Nat), Heap.has H a [Value.map r] ∧ ∃ (b : Bool), ∃ (a : Option Addr), ∃ (n : Nat), ∃ (c : Nat), ∃ (n_1 : Int), ∃ (xs : List Int), List.length xs = (4 : Nat) ∧ ∃ (xs_1 : List Int), List.length xs_1 = (4 : Nat) ∧ ∃ (b_1 : Bool), LookAt H r IntKind.i64 p.fst.snd.fst (Value.agg { toList := [Value.bool false, Value.slice none (0 : Nat) (0 : Nat), Value.int IntKind.i64 (0 : Int), Value.int IntKind.i64 (0 : Int), Value.int IntKind.i64 (0 : Int), Value.int IntKind.i64 (0 : Int), Value.int IntKind.i64 (0 : Int), Value.int IntKind.i64 (0 : Int), Value.int IntKind.i64 (0 : Int), Value.int IntKind.i64 (0 : Int), Value.int IntKind.i64 (0 : Int)] }) (Value.agg { toList := Value.bool b :: Value.slice a n c :: Value.int IntKind.i64 n_1 :: List.append (List.map (Value.int IntKind.i64) xs) (flatD [Seg.ints IntKind.i64 (4 : Nat) xs_1]) }) b_1 ∧ Br b_1 (List.length (List.append p.fst.fst [[Value.int IntKind.i64 p.fst.snd.fst]]) * (8 : Nat) ≤ (140737488355328 : Nat) ∧ g = g ∧ (none : Option Addr) = none ∧ (0 : Nat) = (0 : Nat) ∧ (0 : Nat) = (0 : Nat) ∧ K ((List.append p.fst.fst [[Value.int IntKind.i64 p.fst.snd.fst]], IntKind.wrap IntKind.i64 (p.fst.snd.fst + (1 : Int)), PUnit.unit), PUnit.unit) H) (g = g ∧ (none : Option Addr) = none ∧ (0 : Nat) = (0 : Nat) ∧ (0 : Nat) = (0 : Nat) ∧ K ((p.fst.fst, IntKind.wrap IntKind.i64 (p.fst.snd.fst + (1 : Int)), PUnit.unit), PUnit.unit) H)) (∀ (v : Value) (H' : Nat → Option Obj), H ≤ H' → (∀ (b : Nat), blockOf v = some b → H b = none) → (∀ (b : Nat) (o : Obj), H' b = some o → H b = some o ∨ blockOf v = some b) → RowAt H' v (3 : Nat) (1 : Nat) p.fst.fst → R (Ending.returned v) H')) (([], (1 : Int), PUnit.unit), PUnit.unit) H')
theorem vc_ids (g : Option Addr) (R : Ending → Heap → Prop) (H : Heap) : vcFun prog h_ids f28 [SV.c (SC.v (Value.pointer g))] R H = nf_ids g R H := by kernel_rfl

def nf_gcl (g : Option Addr) (R : Ending → Heap → Prop) (H : Heap) : Prop := Meets prog (67 : Nat) [Value.pointer g] H fun (e : Ending) (H' : Nat → Option Obj) ↦ ∃ (b : Bool), e = Ending.returned (Value.bool b) ∧ Br (!b) (R (Ending.returned (Value.pointer none)) H') (Meets prog (75 : Nat) [] H' fun (e : Ending) (H' : Nat → Option Obj) ↦ ∃ (a : Option Addr), e = Ending.returned (Value.pointer a) ∧ Meets prog (28 : Nat) [Value.pointer g] H' fun (e : Ending) (H' : Nat → Option Obj) ↦ ∃ (a_1 : Option Addr), ∃ (n : Nat), ∃ (c : Nat), e = Ending.returned (Value.slice a_1 n c) ∧ g = g ∧ (none : Option Addr) = none ∧ a = a ∧ a_1 = a_1 ∧ n = n ∧ c = c ∧ (↑n : Int) = (↑n : Int) ∧ LoopP (fun (K : (Int × PUnit) × PUnit → (Nat → Option Obj) → Prop) (p : (Int × PUnit) × PUnit) (H : Nat → Option Obj) ↦ Br (decide (p.fst.fst < (↑n : Int))) (((0 : Int) ≤ p.fst.fst ∧ p.fst.fst < (↑n : Int)) ∧ PtrK a_1 fun (A : Addr) ↦ PtrK (some (Addr.add A (Int.toNat p.fst.fst * (1 : Nat)))) fun (a_2 : Addr) ↦ ∃ (n_1 : Int), Heap.has H a_2 [Value.int IntKind.i64 n_1] ∧ ∃ (G : Nat → Option Obj), G ≤ H ∧ PtrK a fun (a_3 : Addr) ↦ PtrK (some a_3) fun (a_4 : Addr) ↦ PtrK (some (Addr.add a_4 (0 : Nat))) fun (a_5 : Addr) ↦ ∃ (r : Option Nat), Heap.has G a_5 [Value.map r] ∧ PtrK g fun (a_6 : Addr) ↦ PtrK (some a_6) fun (a_7 : Addr) ↦ PtrK (some (Addr.add a_7 (0 : Nat))) fun (a_8 : Addr) ↦ ∃ (r_1 : Option Nat), Heap.has G a_8 [Value.map r_1] ∧ ∃ (b : Bool), ∃ (a_9 : Option Addr), ∃ (n_2 : Nat), ∃ (c_1 : Nat), ∃ (n_3 : Int), ∃ (xs : List Int), List.length xs = (4 : Nat) ∧ ∃ (xs_1 : List Int), List.length xs_1 = (4 : Nat) ∧ (∃ (b_1 : Bool), LookAt G r_1 IntKind.i64 n_1 (Value.agg { toList := [Value.bool false, Value.slice none (0 : Nat) (0 : Nat), Value.int IntKind.i64 (0 : Int), Value.int IntKind.i64 (0 : Int), Value.int IntKind.i64 (0 : Int), Value.int IntKind.i64 (0 : Int), Value.int IntKind.i64 (0 : Int), Value.int IntKind.i64 (0 : Int), Value.int IntKind.i64 (0 : Int), Value.int IntKind.i64 (0 : Int), Value.int IntKind.i64 (0 : Int)] }) (Value.agg { toList := Value.bool b :: Value.slice a_9 n_2 c_1 :: Value.int IntKind.i64 n_3 :: List.append (List.map (Value.int IntKind.i64) xs) (flatD [Seg.ints IntKind.i64 (4 : Nat) xs_1]) }) b_1) ∧ Meets prog (84 : Nat) [Value.agg { toList := Value.bool b :: Value.slice a_9 n_2 c_1 :: Value.int IntKind.i64 n_3 :: List.append (List.map (Value.int IntKind.i64) xs) (List.map (Value.int IntKind.i64) xs_1 ++ []) }] H fun (e : Ending) (H' : Nat → Option Obj) ↦ Keep G H H H' ∧ ∃ (b : Bool), ∃ (a_10 : Option Addr), ∃ (n_4 : Nat), ∃ (c_2 : Nat), ∃ (n_5 : Int), ∃ (xs : List Int), List.length xs = (4 : Nat) ∧ ∃ (xs_2 : List Int), List.length xs_2 = (4 : Nat) ∧ e = Ending.returned (Value.agg { toList := Value.bool b :: Value.slice a_10 n_4 c_2 :: Value.int IntKind.i64 n_5 :: List.append (List.map (Value.int IntKind.i64) xs) (flatD [Seg.ints IntKind.i64 (4 : Nat) xs_2]) }) ∧ MapK r fun (r : Nat) ↦ ∃ (es : Array MapEntry), ∃ (clk : Nat), (delLs H' [] r = some (Obj.map es clk) ∧ IntKeys IntKind.i64 es.toList) ∧ g = g ∧ (none : Option Addr) = none ∧ a = a ∧ a_1 = a_1 ∧ n = n ∧ c = c ∧ (↑n : Int) = (↑n : Int) ∧ K ((IntKind.wrap IntKind.i64 (p.fst.fst + (1 : Int)), PUnit.unit), PUnit.unit) (Heap.upd (delLs H' []) r (mapPut es clk IntKind.i64 n_1 (Value.agg { toList := Value.bool b :: Value.slice a_10 n_4 c_2 :: Value.int IntKind.i64 n_5 :: List.append (List.map (Value.int IntKind.i64) xs) (List.map (Value.int IntKind.i64) xs_2 ++ []) })))) (R (Ending.returned (Value.pointer a)) H)) (((0 : Int), PUnit.unit), PUnit.unit) H')
theorem vc_gcl (g : Option Addr) (R : Ending → Heap → Prop) (H : Heap) : vcFun prog h_gcl f52 [SV.c (SC.v (Value.pointer g))] R H = nf_gcl g R H := by kernel_rfl

def nf_empty (R : Ending → Heap → Prop) (H : Heap) : Prop := Meets prog (75 : Nat) [] H fun (e : Ending) (H' : Nat → Option Obj) ↦ ∃ (a : Option Addr), e = Ending.returned (Value.pointer a) ∧ Meets prog (53 : Nat) [Value.pointer a, Value.int IntKind.i64 (1 : Int), Value.agg { toList := [Value.bool true, Value.slice none (0 : Nat) (0 : Nat), Value.int IntKind.i64 (0 : Int), Value.int IntKind.i64 (0 : Int), Value.int IntKind.i64 (0 : Int), Value.int IntKind.i64 (0 : Int), Value.int IntKind.i64 (0 : Int), Value.int IntKind.i64 (0 : Int), Value.int IntKind.i64 (0 : Int), Value.int IntKind.i64 (0 : Int), Value.int IntKind.i64 (0 : Int)] }] H' fun (e : Ending) (H' : Nat → Option Obj) ↦ ∃ (n : Int), e = Ending.returned (Value.int IntKind.i64 n) ∧ R (Ending.returned (Value.pointer a)) H'
theorem vc_empty (R : Ending → Heap → Prop) (H : Heap) : vcFun prog { } f43 [] R H = nf_empty R H := by kernel_rfl

abbrev cells (l : List Int) : List (List Value) := l.map fun x => [vi x]
theorem g_look {H : Heap} {g : Addr} {r : Nat} {m : Int → Option Nd} (h : GroveAt H g r m) (id : Int) : ∃ a n c, LookAt H (some r) .i64 id (ndV false none 0 0 0 z4 z4) (ndV ((m id).getD nd0).leaf a n c ((m id).getD nd0).next ((m id).getD nd0).kids ((m id).getD nd0).counts) (m id).isSome ∧
    SliceAt H (.slice a n c) 4 (pts ((m id).getD nd0).pts) ∧ ((m id).getD nd0).kids.length = 4 ∧ ((m id).getD nd0).counts.length = 4 := by
  obtain ⟨h1, l, h2, h3⟩ := h
  have hlk := map_look h2 id (ndV false none 0 0 0 z4 z4)
  obtain ⟨v, hv, hvd, hb⟩ : ∃ v, ((getL l id).getD (ndV false none 0 0 0 z4 z4)) = v ∧ NdAt H v ((m id).getD nd0) ∧ (getL l id).isSome = (m id).isSome := by
    rcases h3 id with ⟨e1, e2⟩ | ⟨v, d, e1, e2, e3⟩
    · rw [e1, e2]; exact ⟨_, rfl, NdAt.zero H, rfl⟩
    · rw [e1, e2]; exact ⟨_, rfl, e3, rfl⟩
  rw [hv, hb] at hlk
  obtain ⟨a, n, c, rfl, hs⟩ := hvd
  exact ⟨a, n, c, hlk, hs⟩
/-- The numbers of the nodes that are there. -/
def idsBelow (m : Int → Option Nd) (t : Nat) : List Int := ((List.range t).map fun i : Nat => ((i : Int) + 1)).filter fun i => (m i).isSome
abbrev idsOf (m : Int → Option Nd) : List Int := idsBelow m 255
theorem idsBelow_succ (m : Int → Option Nd) (t : Nat) : idsBelow m (t + 1) = idsBelow m t ++ if (m ((t : Int) + 1)).isSome then [(t : Int) + 1] else [] := by
  unfold idsBelow
  rw [List.range_succ, List.map_append, List.filter_append]
  congr 1
  simp only [List.map_cons, List.map_nil, List.filter_cons, List.filter_nil]
theorem mem_idsBelow {m : Int → Option Nd} {t : Nat} {id : Int} : id ∈ idsBelow m t ↔ 1 ≤ id ∧ id ≤ t ∧ (m id).isSome := by
  unfold idsBelow
  rw [List.mem_filter, List.mem_map]
  constructor
  · rintro ⟨⟨i, h1, rfl⟩, h2⟩
    have := List.mem_range.1 h1
    exact ⟨by omega, by omega, h2⟩
  · rintro ⟨h1, h2, h3⟩
    exact ⟨⟨(id - 1).toNat, List.mem_range.2 (by omega), by omega⟩, h3⟩
theorem idsBelow_len (m : Int → Option Nd) (t : Nat) : (idsBelow m t).length ≤ t := by
  unfold idsBelow
  exact Nat.le_trans (List.length_filter_le _ _) (by simp)
def Dom (m : Int → Option Nd) : Prop := ∀ id d, m id = some d → 1 ≤ id ∧ id ≤ 255 ∧ NdOK d
theorem Dom.few {m : Int → Option Nd} (h : Dom m) {id : Int} {d : Nd} (e : m id = some d) : d.pts.length ≤ 4 := by
  have := (h id d e).2.2
  unfold NdOK at this
  split at this
  · exact this.1.few
  · rw [this.1]; simp
theorem Dom.set {m : Int → Option Nd} (h : Dom m) {id : Int} {d : Nd} (h1 : 1 ≤ id ∧ id ≤ 255) (h2 : NdOK d) : Dom (setM m id d) := fun j e he => by
  unfold setM at he
  split at he
  · cases he; subst_vars; exact ⟨h1.1, h1.2, h2⟩
  · exact h j e he
theorem Dom.del {m : Int → Option Nd} (h : Dom m) {id : Int} : Dom (delM m id) := fun j e he => by
  unfold delM at he
  split at he
  · cases he
  · exact h j e he
theorem Dom.none : Dom fun _ => none := fun j e he => by cases he
theorem GroveAt.put {H : Heap} {g : Addr} {r : Nat} {m : Int → Option Nd} (h : GroveAt H g r m) {id : Int} {v : Value} {d : Nd} (hv : NdAt H v d) :
    ∃ es clk, (H r = some (.map es clk) ∧ IntKeys .i64 es.toList) ∧ GroveAt (H.upd r (mapPut es clk .i64 id v)) g r (setM m id d) := by
  obtain ⟨h1, l, h2, h3⟩ := h
  obtain ⟨es, clk, e1, e2⟩ := map_put h2 id v
  refine ⟨es, clk, e1, has_map e1.1 h1, _, e2, fun j => ?_⟩
  rw [getL_putL]
  unfold setM
  split
  · exact .inr ⟨v, d, rfl, rfl, hv.map e1.1⟩
  · rcases h3 j with h | ⟨v', d', q1, q2, q3⟩
    · exact .inl h
    · exact .inr ⟨v', d', q1, q2, q3.map e1.1⟩
theorem GroveAt.drop {H : Heap} {g : Addr} {r : Nat} {m : Int → Option Nd} (h : GroveAt H g r m) (id : Int) :
    ∃ es clk, (H r = some (.map es clk) ∧ IntKeys .i64 es.toList) ∧ GroveAt (H.upd r (mapDel es clk id)) g r (delM m id) := by
  obtain ⟨h1, l, h2, h3⟩ := h
  obtain ⟨es, clk, e1, e2⟩ := map_del h2 id
  refine ⟨es, clk, e1, has_map e1.1 h1, _, e2, fun j => ?_⟩
  obtain ⟨_, _, _, _, _, hnd⟩ := h2
  rw [getL_delL hnd]
  unfold delM
  split
  · exact .inl ⟨rfl, rfl⟩
  · rcases h3 j with h | ⟨v', d', q1, q2, q3⟩
    · exact .inl h
    · exact .inr ⟨v', d', q1, q2, q3.map e1.1⟩
theorem memN_one {a t : Nat} (h : memN [a] t = true) : t = a := by
  simp only [memN] at h
  split at h
  · rename_i e; exact (Nat.eq_of_beq_eq_true e).symm
  · cases h
section
variable {R : Ending → Heap → Prop} {H : Heap}
theorem s_may {v : Value} {d : Nd} (h : NdAt H v d) (hl : d.pts.length ≤ 1000000) (k : ∀ b : Bool, (b = true ↔ NdOK d) → R (.returned (.bool b)) H) : Meets prog 122 [v] H R := by
  have h0 := h
  obtain ⟨a, n, c, rfl, h1, h2, h3⟩ := h
  refine spec_of func122 (by kernel_rfl) (fun t h => ?_) ?_ (vc_may d.leaf a n c d.next d.kids d.counts R H) ?_
  · have : t = 72 := memN_one h
    subst this
    exact eqOK_of (by kernel_rfl) (by kernel_rfl) (by kernel_rfl)
  · simp [argsR, SV.rep, SegsRep, SC.rep, one, h2, h3]
  unfold nf_may
  refine br (fun q => ?_) fun q => ?_
  · have hq : NdOK d ↔ PtsOK d.pts ∧ 0 ≤ d.next ∧ d.next ≤ 255 ∧ d.kids = z4 ∧ d.counts = z4 := by unfold NdOK; rw [if_pos q]
    refine s_npts h1 hl fun b hb => ⟨_, rfl, br (fun q1 => br (fun q2 => br (fun q3 => br (fun q4 => ?_) fun q4 => ?_) fun q3 => ?_) fun q2 => ?_) fun q1 => ?_⟩
    · refine k _ ?_
      rw [hq]
      simp only [andO, decide_eq_true_eq, beq_iff_eq] at *
      constructor
      · intro h; exact ⟨hb.1 q1, by omega, by omega, q4, h⟩
      · intro h; exact h.2.2.2.2
    · refine k _ ⟨fun h => (by cases h), fun h => ?_⟩
      rw [hq] at h
      simp [andO] at q4
      exact (q4 h.2.2.2.1).elim
    · refine k _ ⟨fun h => (by cases h), fun h => ?_⟩
      rw [hq] at h
      simp at q3; omega
    · refine k _ ⟨fun h => (by cases h), fun h => ?_⟩
      rw [hq] at h
      simp at q2; omega
    · refine k _ ⟨fun h => (by cases h), fun h => ?_⟩
      rw [hq] at h
      have := hb.2 h.1
      rw [this] at q1; cases q1
  · have hq : NdOK d ↔ d.pts = [] ∧ d.next = 0 ∧ QuaOK d.kids d.counts := by unfold NdOK; rw [if_neg (by simp [q])]
    have hn : d.pts.length = n := by simpa [pts] using (slice_len h1).1
    refine br (fun q1 => br (fun q2 => ?_) fun q2 => ?_) fun q1 => ?_
    · refine s_nqua h0 fun b hb => ⟨_, rfl, k b ?_⟩
      rw [hq]
      simp only [beq_iff_eq] at q1 q2
      rw [hb]
      constructor
      · intro h; exact ⟨List.length_eq_zero_iff.1 (by omega), q2, h⟩
      · intro h; exact h.2.2
    · refine k _ ⟨fun h => (by cases h), fun h => ?_⟩
      rw [hq] at h
      simp at q2; exact (q2 h.2.1).elim
    · refine k _ ⟨fun h => (by cases h), fun h => ?_⟩
      rw [hq] at h
      have := h.1
      rw [this] at hn
      simp at q1 hn; omega
theorem s_nchk {v : Value} {d : Nd} (h : NdAt H v d) (hl : d.pts.length ≤ 1000000) (k1 : NdOK d → R (.returned (vi 0)) H) (k2 : ¬ NdOK d → R (.returned (vi 9)) H) : Meets prog 85 [v] H R := by
  have h0 := h
  obtain ⟨a, n, c, rfl, h1, h2, h3⟩ := h
  refine spec_of func85 (by kernel_rfl) (fun t h => by cases h) ?_ (vc_nchk d.leaf a n c d.next d.kids d.counts R H) ?_
  · simp [argsR, SV.rep, SegsRep, SC.rep, one, h2, h3]
  unfold nf_nchk
  refine s_may h0 hl fun b hb => ⟨_, rfl, br (fun q => ?_) fun q => ?_⟩
  · exact k2 fun h => by rw [hb.2 h] at q; cases q
  · exact k1 (hb.1 (by simpa using q))
theorem s_put {g : Addr} {r : Nat} {m : Int → Option Nd} {id : Int} {v : Value} {d : Nd} (h : GroveAt H g r m) (hv : NdAt H v d) (hl : d.pts.length ≤ 1000000)
    (k1 : ¬ NdOK d → R (.returned (vi 9)) H) (k2 : NdOK d → ¬ (1 ≤ id ∧ id ≤ 255) → R (.returned (vi 4)) H) (k3 : NdOK d → 1 ≤ id ∧ id ≤ 255 → ∀ H', GroveAt H' g r (setM m id d) → GMod r H H' → R (.returned (vi 0)) H') :
    Meets prog 53 [.pointer (some g), vi id, v] H R := by
  have hv0 := hv
  obtain ⟨a, n, c, rfl, hs1, hk, hc⟩ := hv
  refine spec_of func53 (by kernel_rfl) (fun t h => by cases h) ?_ (vc_put (some g) id d.leaf a n c d.next d.kids d.counts R H) ?_
  · simp [argsR, SV.rep, SegsRep, SC.rep, one, hk, hc]
  unfold nf_put
  refine s_is h.1 ⟨_, rfl, br (fun q => by simp at q) fun _ => ?_⟩
  refine s_nchk hv0 hl (fun ok => ⟨_, rfl, br (fun q => by simp at q) fun _ => ?_⟩) fun no => ⟨_, rfl, br (fun q => k1 no) fun q => by simp at q⟩
  refine br (fun q => k2 ok (by simp at q; omega)) fun q => br (fun q1 => k2 ok (by simp at q1; omega)) fun q1 => ?_
  refine ⟨H, heap_refl _, ptr rfl (ptr rfl (ptr rfl ⟨_, h.1, ?_⟩))⟩
  refine s_own hv0 hl fun v H' hle hv1 => ?_
  have hv2 := hv1
  obtain ⟨a', n', c', rfl, _, _, _⟩ := hv1
  obtain ⟨es, clk, e1, e2⟩ := (h.le hle).put (id := id) hv2
  refine ⟨fun b o hb _ => hle b o hb, _, a', n', c', _, _, hk, _, hc, rfl, mapk rfl ⟨es, clk, e1, ?_⟩⟩
  simp only [decide_eq_false_iff_not] at q q1
  exact k3 ok (by omega) _ e2 ((GMod.of_le hle).trans GMod.upd)
theorem s_drop {g : Addr} {r : Nat} {m : Int → Option Nd} {id : Int} (h : GroveAt H g r m) (k : ∀ H', GroveAt H' g r (delM m id) → GMod r H H' → R (.returned (.bool (m id).isSome)) H') :
    Meets prog 55 [.pointer (some g), vi id] H R := by
  refine spec_of func55 (by kernel_rfl) (fun t h => by cases h) ?_ (vc_drop (some g) id R H) ?_
  · simp [argsR, SV.rep, SC.rep, one]
  unfold nf_drop
  obtain ⟨a, n, c, hlk, _, hk, hc⟩ := g_look h id
  obtain ⟨es, clk, e1, e2⟩ := h.drop id
  exact s_is h.1 ⟨_, rfl, br (fun q => by simp at q) fun _ => ptr rfl (ptr rfl (ptr rfl ⟨_, h.1, _, a, n, c, _, _, hk, _, hc, _, hlk, ptr rfl (ptr rfl (ptr rfl ⟨_, h.1, mapk rfl ⟨es, clk, e1, k _ e2 GMod.upd⟩⟩))⟩))⟩
theorem s_fresh {g : Addr} {r : Nat} {m : Int → Option Nd} (h : GroveAt H g r m) (k1 : ∀ id, 1 ≤ id → id ≤ 255 → m id = none → (∀ j, 1 ≤ j → j < id → (m j).isSome) → R (.returned (.tuple #[vi id, vi 0])) H) (k2 : (∀ id, 1 ≤ id → id ≤ 255 → (m id).isSome) → R (.returned (.tuple #[vi 0, vi 10])) H) :
    Meets prog 51 [.pointer (some g)] H R := by
  refine spec_of func51 (by kernel_rfl) (fun t h => by cases h) ?_ (vc_fresh (some g) R H) ?_
  · simp [argsR, SV.rep, SC.rep, one]
  unfold nf_fresh
  refine s_is h.1 ⟨_, rfl, br (fun q => by simp at q) fun _ => ?_⟩
  simp only [true_and]
  refine ⟨fun p H' => 1 ≤ p.1.1 ∧ p.1.1 ≤ 256 ∧ (∀ id, 1 ≤ id → id < p.1.1 → (m id).isSome) ∧ H' = H, fun p _ => (256 - p.1.1).toNat, ⟨by simp, by simp, fun id h1 h2 => by simp at h2; omega, rfl⟩, ?_⟩
  rintro ⟨⟨i, _⟩, _⟩ H1 ⟨h1, h2, h3, rfl⟩
  simp only at h1 h2 h3 ⊢
  refine br (fun q => ?_) fun q => ?_
  · simp only [decide_eq_true_eq] at q
    obtain ⟨a, n, c, hlk, _, hk, hc⟩ := g_look h i
    refine ptr rfl (ptr rfl (ptr rfl ⟨_, h.1, _, a, n, c, _, _, hk, _, hc, _, hlk, br (fun q1 => ?_) fun q1 => ?_⟩))
    · exact k1 i (by omega) (by omega) (by simpa using q1) h3
    · rw [w64 (by omega)]
      refine ⟨⟨by omega, by omega, fun id a b => ?_, by trivial⟩, by omega⟩
      rcases Int.lt_or_le id i with hlt | hge
      · exact h3 id a hlt
      · have : id = i := by omega
        subst this
        simpa using q1
  · simp only [decide_eq_false_iff_not] at q
    exact k2 fun id a b => h3 id a (by omega)
theorem s_ids {g : Addr} {r : Nat} {m : Int → Option Nd} (h : GroveAt H g r m) (k : ∀ v H', H ≤ H' → (∀ b, blockOf v = some b → H b = none) → RowAt H' v 3 1 (cells (idsOf m)) → R (.returned v) H') :
    Meets prog 28 [.pointer (some g)] H R := by
  refine spec_of func28 (by kernel_rfl) (fun t h => by cases h) ?_ (vc_ids (some g) R H) ?_
  · simp [argsR, SV.rep, SC.rep, one]
  unfold nf_ids
  refine s_is h.1 ⟨_, rfl, br (fun q => by simp at q) fun _ => ?_⟩
  simp only [true_and]
  refine ⟨fun p H' => ∃ t : Nat, p.1.1 = cells (idsBelow m t) ∧ p.1.2.1 = (t : Int) + 1 ∧ t ≤ 255 ∧ H' = H, fun p _ => (256 - p.1.2.1).toNat, ⟨0, by simp [idsBelow], by simp, by omega, rfl⟩, ?_⟩
  rintro ⟨⟨l, i, _⟩, _⟩ H1 ⟨t, hl, hi, ht, rfl⟩
  simp only at hl hi ⊢
  subst hl; subst hi
  refine br (fun q => ?_) fun q => ?_
  · simp only [decide_eq_true_eq] at q
    obtain ⟨a, n, c, hlk, _, hk, hc⟩ := g_look h ((t : Int) + 1)
    have hs := idsBelow_succ m t
    refine ptr rfl (ptr rfl (ptr rfl ⟨_, h.1, _, a, n, c, _, _, hk, _, hc, _, hlk, br (fun q1 => ?_) fun q1 => ?_⟩))
    · rw [if_pos q1] at hs
      have e : List.append (cells (idsBelow m t)) [[vi ((t : Int) + 1)]] = cells (idsBelow m (t + 1)) := by rw [hs]; simp [cells]
      rw [e, w64 (by omega)]
      refine ⟨?_, ⟨t + 1, rfl, by omega, by omega, by trivial⟩, by omega⟩
      have := idsBelow_len m (t + 1)
      simp [cells]; omega
    · rw [if_neg (by simp [q1]), List.append_nil] at hs
      rw [w64 (by omega)]
      exact ⟨⟨t + 1, by rw [hs], by omega, by omega, by trivial⟩, by omega⟩
  · simp only [decide_eq_false_iff_not] at q
    have : t = 255 := by omega
    subst this
    exact fun v H' a b _ c => k v H' a b c
theorem s_new (k : ∀ r b, H r = none → H b = none → r ≠ b → ∀ H', H ≤ H' → GroveAt H' ⟨b, 0, none⟩ r (fun _ => none) → R (.returned (.pointer (some ⟨b, 0, none⟩))) H') : Meets prog 75 [] H R := by
  refine spec_of func75 (by kernel_rfl) (fun t h => by cases h) ?_ (vc_new R H) ?_
  · simp [argsR]
  unfold nf_new
  intro r hr b hb
  have hne : b ≠ r := by rintro rfl; rw [upd_same] at hb; cases hb
  rw [upd_ne _ _ hne] at hb
  refine k r b hr hb (Ne.symm hne) _ ?_ ⟨?_, [], map_same (map_new H r .i64) (fun o e => by rw [upd_ne _ _ (Ne.symm hne)]; exact e), fun id => .inl ⟨rfl, rfl⟩⟩
  · intro b' o e
    rw [upd_ne _ _ (fun e' => by subst e'; rw [hb] at e; cases e), upd_ne _ _ (fun e' => by subst e'; rw [hr] at e; cases e)]
    exact e
  · intro j x hj
    cases j with
    | zero =>
      simp at hj; subst hj
      simp [Heap.cell?, upd_same]
    | succ j => simp at hj
theorem s_empty (k : ∀ r b, H r = none → H b = none → r ≠ b → ∀ H', H ≤ H' → GroveAt H' ⟨b, 0, none⟩ r (setM (fun _ => none) 1 ⟨true, [], 0, z4, z4⟩) → R (.returned (.pointer (some ⟨b, 0, none⟩))) H') : Meets prog 43 [] H R := by
  refine spec_of func43 (by kernel_rfl) (fun t h => by cases h) ?_ (vc_empty R H) ?_
  · simp [argsR]
  unfold nf_empty
  refine s_new fun r b hr hb hne H1 hle hg => ⟨_, rfl, ?_⟩
  have ok : NdOK ⟨true, [], 0, z4, z4⟩ := by
    unfold NdOK
    rw [if_pos rfl]
    exact ⟨⟨by simp, by simp, by simp⟩, by simp, by simp, rfl, rfl⟩
  refine s_put (id := 1) (d := ⟨true, [], 0, z4, z4⟩) hg ⟨none, 0, 0, rfl, slice_nil _, rfl, rfl⟩ (by simp) (fun no => (no ok).elim) (fun _ no => (no (by omega)).elim) fun _ _ H2 hg2 hm => ⟨_, rfl, k r b hr hb hne H2 ?_ hg2⟩
  intro b' o e
  exact hm b' o (fun e' => by subst e'; rw [hr] at e; cases e) (hle _ _ e)
theorem s_gcl {g : Addr} {r : Nat} {m : Int → Option Nd} (hd : Dom m) (h : GroveAt H g r m) (k : ∀ r' b, H r' = none → H b = none → r' ≠ b → ∀ H', H ≤ H' → GroveAt H' ⟨b, 0, none⟩ r' m → R (.returned (.pointer (some ⟨b, 0, none⟩))) H') :
    Meets prog 52 [.pointer (some g)] H R := by
  refine spec_of func52 (by kernel_rfl) (fun t h => by cases h) ?_ (vc_gcl (some g) R H) ?_
  · simp [argsR, SV.rep, SC.rep, one]
  unfold nf_gcl
  simp only [true_and, delLs_nil]
  refine s_is h.1 ⟨_, rfl, br (fun q => by simp at q) fun _ => ?_⟩
  refine s_new fun r' b hr hb hne H1 hle1 hg1 => ⟨_, rfl, ?_⟩
  refine s_ids (h.le hle1) fun v H2 hle2 _ hv => ?_
  obtain ⟨a1, c1, rfl⟩ := row_val hv
  have hsl := row_slice hv
  have hlen : (cells (idsOf m)).length = (idsOf m).length := by simp [cells]
  have hl255 : (idsOf m).length ≤ 255 := idsBelow_len m 255
  refine ⟨_, _, _, rfl, ?_⟩
  refine ⟨fun p H' => ∃ t : Nat, p.1.1 = t ∧ t ≤ (idsOf m).length ∧ H ≤ H' ∧ SliceAt H' (.slice a1 (cells (idsOf m)).length c1) 1 (cells (idsOf m)) ∧ GroveAt H' ⟨b, 0, none⟩ r' (fun j => if j ∈ (idsOf m).take t then m j else none), fun p _ => ((idsOf m).length - p.1.1).toNat, ⟨0, rfl, by omega, fun b o e => hle2 _ _ (hle1 _ _ e), hsl, ?_⟩, ?_⟩
  · simpa using hg1.le hle2
  rintro ⟨⟨i, _⟩, _⟩ H3 ⟨t, hi, ht, hle3, hsl3, hg3⟩
  simp only at hi ⊢
  subst hi
  rw [hlen] at hsl3 ⊢
  refine br (fun q => ?_) fun q => ?_
  · simp only [decide_eq_true_eq] at q
    have hx : (idsOf m)[t]? = some (idsOf m)[t] := List.getElem?_eq_getElem (by omega)
    obtain ⟨A, e, _, g1⟩ := slice_get hsl3 (i := t) (e := [vi (idsOf m)[t]]) (by simp [cells, hx])
    subst e
    obtain ⟨a, n, c, hlk, hs, hk, hc⟩ := g_look (h.le hle3) (idsOf m)[t]
    have hmem := mem_idsBelow.1 (List.getElem_mem (l := idsOf m) (n := t) (by omega))
    obtain ⟨d, hd'⟩ := Option.isSome_iff_exists.1 hmem.2.2
    generalize (idsOf m)[t] = x at *
    refine ⟨⟨by omega, by omega⟩, ptr rfl (ptr rfl ⟨x, g1, H3, heap_refl _, ptr rfl (ptr rfl (ptr rfl ⟨_, hg3.1, ptr rfl (ptr rfl (ptr rfl ⟨_, (h.le hle3).1, _, a, n, c, _, _, hk, _, hc, ⟨_, hlk⟩, ?_⟩))⟩))⟩)⟩
    refine s_own (d := (m x).getD nd0) ⟨a, n, c, rfl, hs, hk, hc⟩ (by rw [hd']; have := hd.few hd'; simp; omega) fun v H4 hle4 hv4 => ?_
    have hv2 := hv4
    obtain ⟨a', n', c', rfl, _, _, _⟩ := hv4
    obtain ⟨es, clk, e1, e2⟩ := (hg3.le hle4).put (id := x) hv2
    refine ⟨fun b o hb _ => hle4 b o hb, _, a', n', c', _, _, hk, _, hc, rfl, mapk rfl ⟨es, clk, e1, ?_⟩⟩
    rw [w64 (by omega)]
    refine ⟨⟨t + 1, by omega, by omega, fun b' o e => ?_, slice_map e1.1 (slice_le hsl3 hle4), ?_⟩, by omega⟩
    · rw [upd_ne _ _ (fun e' => by subst e'; rw [hr] at e; cases e)]
      exact hle4 _ _ (hle3 _ _ e)
    · have : (fun j => if j ∈ (idsOf m).take (t + 1) then m j else none) = setM (fun j => if j ∈ (idsOf m).take t then m j else none) x ((m x).getD nd0) := by
        funext j
        rw [List.take_add_one, hx]
        unfold setM
        by_cases h : j = x
        · subst h; simp [hd']
        · simp [h]
      rw [this]
      exact e2
  · simp only [decide_eq_false_iff_not] at q
    have : t = (idsOf m).length := by omega
    subst this
    rw [List.take_length] at hg3
    have : (fun j => if j ∈ idsOf m then m j else none) = m := by
      funext j
      cases e : m j with
      | none => simp [e]
      | some d => 
        have := hd j d e
        rw [if_pos (mem_idsBelow.2 ⟨this.1, this.2.1, by rw [e]; rfl⟩)]
    rw [this] at hg3
    exact k r' b hr hb hne H3 hle3 hg3
end
end Cr
