/- Own texts, one behind the other: W1, S11, S12, W2, W8, W3, W9, S4, S5, W4. -/
import Derived.Deep.Slices
import Derived.Test.YtekaopahienmgaaRows
import Derived.Test.YtekaopahienmgaaZ6
/- A tree's shape: the walker. -/
set_option linter.unusedVariables false
set_option linter.unusedSimpArgs false
namespace Cr
open Go Sx Stb Bt
open Go.Proofs.Try
set_option maxRecDepth 100000
def h_wshape : Hints := { deep := true, own := [46, 73], loops := [(8, ⟨[0, 1, 4, 54], [.f 6 (.int .i64), .f 55 (.int .i64)], [.keep 4]⟩), (15, ⟨[0, 77], [.f 78 (.int .i64)], []⟩)] }
def nf_wshape (b : Addr) (id : Int) (R : Ending → Heap → Prop) (H : Heap) : Prop := PtrK (some b) fun (a : Addr) ↦ PtrK (some a) fun (a : Addr) ↦ PtrK (some (Addr.add a (0 : Nat))) fun (a : Addr) ↦ ∃ (a_1 : Option Addr), Heap.has H a [Value.pointer a_1] ∧ Meets prog (50 : Nat) [Value.pointer a_1, Value.int IntKind.i64 id] H fun (e : Ending) (H' : Nat → Option Obj) ↦ ∃ (b_1 : Bool), ∃ (a : Option Addr), ∃ (n : Nat), ∃ (c : Nat), ∃ (n_1 : Int), ∃ (xs : List Int), List.length xs = (4 : Nat) ∧ ∃ (xs_1 : List Int), List.length xs_1 = (4 : Nat) ∧ ∃ (b_2 : Bool), e = Ending.returned (Value.tuple { toList := [Value.agg { toList := Value.bool b_1 :: Value.slice a n c :: Value.int IntKind.i64 n_1 :: List.append (List.map (Value.int IntKind.i64) xs) (flatD [Seg.ints IntKind.i64 (4 : Nat) xs_1]) }, Value.bool b_2] }) ∧ Br (!b_2) (R (Ending.returned (Value.tuple { toList := [] })) H') (PtrK (some b) fun (a_2 : Addr) ↦ PtrK (some a_2) fun (a_3 : Addr) ↦ PtrK (some (Addr.add a_3 (1 : Nat))) fun (a_4 : Addr) ↦ ∃ (r : Option Nat), Heap.has H' a_4 [Value.map r] ∧ ∃ (b_3 : Bool), (∃ (b : Bool), LookAt H' r IntKind.i64 id (Value.bool false) (Value.bool b_3) b) ∧ Br b_3 (R (Ending.returned (Value.tuple { toList := [] })) H') (PtrK (some b) fun (a_5 : Addr) ↦ PtrK (some a_5) fun (a_6 : Addr) ↦ PtrK (some (Addr.add a_6 (1 : Nat))) fun (a_7 : Addr) ↦ ∃ (r : Option Nat), Heap.has H' a_7 [Value.map r] ∧ MapK r fun (r : Nat) ↦ ∃ (es : Array MapEntry), ∃ (clk : Nat), (H' r = some (Obj.map es clk) ∧ IntKeys IntKind.i64 es.toList) ∧ Br b_1 (PtrK (some b) fun (a : Addr) ↦ PtrK (some a) fun (a : Addr) ↦ PtrK (some (Addr.add a (2 : Nat))) fun (a : Addr) ↦ ∃ (a_8 : Option Addr), ∃ (n_2 : Nat), ∃ (c : Nat), Heap.has (Heap.upd H' r (mapPut es clk IntKind.i64 id (Value.bool true))) a [Value.slice a_8 n_2 c] ∧ ∃ (es_1 : List (List Value)), RowAt (Heap.upd H' r (mapPut es clk IntKind.i64 id (Value.bool true))) (Value.slice a_8 n_2 c) (3 : Nat) (1 : Nat) es_1 ∧ List.length (List.append es_1 [[Value.int IntKind.i64 (↑n : Int)]]) * (8 : Nat) ≤ (140737488355328 : Nat) ∧ PtrK (some b) fun (a : Addr) ↦ PtrK (some a) fun (a : Addr) ↦ ∀ (v : Value) (H'_1 : Nat → Option Obj), Heap.delO (Heap.upd H' r (mapPut es clk IntKind.i64 id (Value.bool true))) (blockOf (Value.slice a_8 n_2 c)) ≤ H'_1 → (∀ (b : Nat), blockOf v = some b → Heap.delO (Heap.upd H' r (mapPut es clk IntKind.i64 id (Value.bool true))) (blockOf (Value.slice a_8 n_2 c)) b = none) → (∀ (b : Nat) (o : Obj), H'_1 b = some o → Heap.delO (Heap.upd H' r (mapPut es clk IntKind.i64 id (Value.bool true))) (blockOf (Value.slice a_8 n_2 c)) b = some o ∨ blockOf v = some b) → RowAt H'_1 v (3 : Nat) (1 : Nat) (List.append es_1 [[Value.int IntKind.i64 (↑n : Int)]]) → PtrK (some (Addr.add a (2 : Nat))) fun (A : Addr) ↦ ∃ (c : Array Value), ∃ (ty : Nat), (H'_1 A.block = some (Obj.cells c ty) ∧ A.spot = none ∧ A.off + (1 : Nat) ≤ Array.size c) ∧ Meets prog (74 : Nat) [Value.pointer (some b), Value.int IntKind.i64 n_1] (Heap.upd H'_1 A.block (Obj.cells (writeCells c A.off [v]) ty)) fun (e : Ending) (H' : Nat → Option Obj) ↦ e = Ending.returned (Value.tuple { toList := [] }) ∧ R (Ending.returned (Value.tuple { toList := [] })) H') (some b = some b ∧ id = id ∧ (0 : Nat) = (0 : Nat) ∧ xs = xs ∧ b_1 = b_1 ∧ a = a ∧ n = n ∧ c = c ∧ n_1 = n_1 ∧ xs = xs ∧ xs_1 = xs_1 ∧ LoopP (fun (K : (Int × Int × PUnit) × PUnit × PUnit → (Nat → Option Obj) → Prop) (p : (Int × Int × PUnit) × PUnit × PUnit) (H : Nat → Option Obj) ↦ Br (decide (p.fst.snd.fst < (4 : Int))) (((0 : Int) ≤ p.fst.snd.fst ∧ p.fst.snd.fst < (↑(4 : Nat) : Int)) ∧ Br (decide (List.getD xs (Int.toNat p.fst.snd.fst) (0 : Int) > (0 : Int))) ((0 : Int) ≤ p.fst.snd.fst ∧ some b = some b ∧ id = id ∧ (0 : Nat) = (0 : Nat) ∧ xs = xs ∧ b_1 = b_1 ∧ a = a ∧ n = n ∧ c = c ∧ n_1 = n_1 ∧ xs = xs ∧ xs_1 = xs_1 ∧ K ((IntKind.wrap IntKind.i64 (p.fst.fst - shlI IntKind.i64 (1 : Int) p.fst.snd.fst), IntKind.wrap IntKind.i64 (p.fst.snd.fst + (1 : Int)), PUnit.unit), PUnit.unit, PUnit.unit) H) (some b = some b ∧ id = id ∧ (0 : Nat) = (0 : Nat) ∧ xs = xs ∧ b_1 = b_1 ∧ a = a ∧ n = n ∧ c = c ∧ n_1 = n_1 ∧ xs = xs ∧ xs_1 = xs_1 ∧ K ((p.fst.fst, IntKind.wrap IntKind.i64 (p.fst.snd.fst + (1 : Int)), PUnit.unit), PUnit.unit, PUnit.unit) H)) (PtrK (some b) fun (a : Addr) ↦ PtrK (some a) fun (a : Addr) ↦ PtrK (some (Addr.add a (2 : Nat))) fun (a : Addr) ↦ ∃ (a_8 : Option Addr), ∃ (n : Nat), ∃ (c : Nat), Heap.has H a [Value.slice a_8 n c] ∧ ∃ (es : List (List Value)), RowAt H (Value.slice a_8 n c) (3 : Nat) (1 : Nat) es ∧ List.length (List.append es [[Value.int IntKind.i64 p.fst.fst]]) * (8 : Nat) ≤ (140737488355328 : Nat) ∧ PtrK (some b) fun (a : Addr) ↦ PtrK (some a) fun (a : Addr) ↦ ∀ (v : Value) (H' : Nat → Option Obj), Heap.delO H (blockOf (Value.slice a_8 n c)) ≤ H' → (∀ (b : Nat), blockOf v = some b → Heap.delO H (blockOf (Value.slice a_8 n c)) b = none) → (∀ (b : Nat) (o : Obj), H' b = some o → Heap.delO H (blockOf (Value.slice a_8 n c)) b = some o ∨ blockOf v = some b) → RowAt H' v (3 : Nat) (1 : Nat) (List.append es [[Value.int IntKind.i64 p.fst.fst]]) → PtrK (some (Addr.add a (2 : Nat))) fun (A : Addr) ↦ ∃ (c : Array Value), ∃ (ty : Nat), (H' A.block = some (Obj.cells c ty) ∧ A.spot = none ∧ A.off + (1 : Nat) ≤ Array.size c) ∧ some b = some b ∧ xs = xs ∧ LoopP (fun (K : (Int × PUnit) × PUnit → (Nat → Option Obj) → Prop) (p : (Int × PUnit) × PUnit) (H : Nat → Option Obj) ↦ Br (decide (p.fst.fst < (4 : Int))) (((0 : Int) ≤ p.fst.fst ∧ p.fst.fst < (↑(4 : Nat) : Int)) ∧ Meets prog (74 : Nat) [Value.pointer (some b), Value.int IntKind.i64 (List.getD xs (Int.toNat p.fst.fst) (0 : Int))] H fun (e : Ending) (H' : Nat → Option Obj) ↦ e = Ending.returned (Value.tuple { toList := [] }) ∧ some b = some b ∧ xs = xs ∧ K ((IntKind.wrap IntKind.i64 (p.fst.fst + (1 : Int)), PUnit.unit), PUnit.unit) H') (R (Ending.returned (Value.tuple { toList := [] })) H)) (((0 : Int), PUnit.unit), PUnit.unit) (Heap.upd H' A.block (Obj.cells (writeCells c A.off [v]) ty)))) (((-1 : Int), (0 : Int), PUnit.unit), PUnit.unit, PUnit.unit) (Heap.upd H' r (mapPut es clk IntKind.i64 id (Value.bool true))))))
theorem vc_wshape (b : Addr) (id : Int) (R : Ending → Heap → Prop) (H : Heap) : vcFun prog h_wshape f74 [SV.c (SC.v (Value.pointer (some b))), SV.c (SC.v (Value.int IntKind.i64 id))] R H = nf_wshape b id R H := by kernel_rfl

def nf_tshape (g : Option Addr) (R : Ending → Heap → Prop) (H : Heap) : Prop := ∀ (r : Nat), H r = none → ∀ (b : Nat), Heap.upd H r (Obj.map #[] (0 : Nat)) b = none → Meets prog (74 : Nat) [Value.pointer (some { block := b, off := (0 : Nat) }), Value.int IntKind.i64 (1 : Int)] (Heap.upd (Heap.upd H r (Obj.map #[] (0 : Nat))) b (Obj.cells { toList := [Value.pointer g, Value.map (some r), Value.slice none (0 : Nat) (0 : Nat)] } (117 : Nat))) fun (e : Ending) (H' : Nat → Option Obj) ↦ e = Ending.returned (Value.tuple { toList := [] }) ∧ ∃ (a : Option Addr), ∃ (r : Option Nat), ∃ (a_1 : Option Addr), ∃ (n : Nat), ∃ (c : Nat), (∃ (b_1 : Nat), blockOf (Value.pointer (some { block := b, off := (0 : Nat) })) = some b_1 ∧ H' b_1 = some (Obj.cells { toList := [Value.pointer a, Value.map r, Value.slice a_1 n c] } (117 : Nat))) ∧ R (Ending.returned (Value.slice a_1 n c)) (Heap.delO H' (blockOf (Value.pointer (some { block := b, off := (0 : Nat) }))))
theorem vc_tshape (g : Option Addr) (R : Ending → Heap → Prop) (H : Heap) : vcFun prog { } f41 [SV.c (SC.v (Value.pointer g))] R H = nf_tshape g R H := by kernel_rfl

def wkL (g : Addr) (r : Nat) (s : Value) : List Value := [.pointer (some g), .map (some r), s]
/-- A walker stands at b, its map at r; what is in G is as it was. -/
def WkAt (G : Heap) (g : Addr) (b r : Nat) (met : Int → Bool) (out : List Int) (H : Heap) : Prop :=
  G ≤ H ∧ G b = none ∧ G r = none ∧ b ≠ r ∧ (∃ l, MapAt H r .i64 l ∧ ∀ id, getL l id = if met id then some (.bool true) else none) ∧
    ∃ a n c, H b = some (.cells (wkL g r (.slice a n c)).toArray 117 (0, 0)) ∧ RowAt H (.slice a n c) 3 1 (cells out) ∧ ∀ k, blockOf (.slice a n c) = some k → G k = none ∧ k ≠ b ∧ k ≠ r
section
variable {R : Ending → Heap → Prop} {H : Heap}
theorem WkAt.mono {G : Heap} {g : Addr} {b r : Nat} {met : Int → Bool} {out : List Int} {H H' : Heap} (h : WkAt G g b r met out H) (hle : H ≤ H') : WkAt G g b r met out H' := by
  obtain ⟨h1, h2, h3, h4, ⟨l, h5, h6⟩, a, n, c, h8, h9, h10⟩ := h
  exact ⟨heap_trans h1 hle, h2, h3, h4, ⟨l, map_same h5 (fun o e => hle _ _ e), h6⟩, a, n, c, hle _ _ h8, row_le h9 (fun b o _ e => hle _ _ e), h10⟩
theorem WkAt.put {G : Heap} {g : Addr} {b r : Nat} {met : Int → Bool} {out : List Int} {H : Heap} (h : WkAt G g b r met out H) (id : Int) : ∃ es clk, (H r = some (.map es clk) ∧ IntKeys .i64 es.toList) ∧
    WkAt G g b r (fun j => j == id || met j) out (H.upd r (mapPut es clk .i64 id (.bool true))) := by
  obtain ⟨h1, h2, h3, h4, ⟨l, h5, h6⟩, a, n, c, h8, h9, h10⟩ := h
  obtain ⟨es, clk, e1, e2⟩ := map_put h5 id (.bool true)
  refine ⟨es, clk, e1, le_upd h1 h3 _, h2, h3, h4, ⟨_, e2, fun j => ?_⟩, a, n, c, ?_, row_le h9 (fun k o e q => ?_), h10⟩
  · rw [getL_putL, h6]
    by_cases e : j = id
    · subst e; simp
    · simp [e]
  · rw [upd_ne _ _ h4]; exact h8
  · rw [upd_ne _ _ (h10 k e).2.2]; exact q
/-- A number is appended. -/
theorem WkAt.push {G : Heap} {g : Addr} {b r : Nat} {met : Int → Bool} {out : List Int} {H : Heap} (h : WkAt G g b r met out H) (hl : out.length ≤ 1000000) (y : Int) {X : Heap → Prop} (hX : ∀ H', WkAt G g b r met (out ++ [y]) H' → X H') :
    ∃ (a : Option Addr) (n c : Nat), H.has (Addr.add ⟨b, 0, none⟩ 2) [.slice a n c] ∧ ∃ es : List (List Value), RowAt H (.slice a n c) 3 1 es ∧ (List.append es [[vi y]]).length * 8 ≤ 140737488355328 ∧
      PtrK (some ⟨b, 0, none⟩) fun a_1 => PtrK (some a_1) fun a_2 => ∀ (v : Value) (H' : Heap), H.delO (blockOf (.slice a n c)) ≤ H' → (∀ b, blockOf v = some b → (H.delO (blockOf (.slice a n c))) b = none) → (∀ (b : Nat) (o : Obj), H' b = some o → (H.delO (blockOf (.slice a n c))) b = some o ∨ blockOf v = some b) → RowAt H' v 3 1 (List.append es [[vi y]]) →
        PtrK (some (Addr.add a_2 2)) fun A => ∃ (c : Array Value) (ty : TypeId), (H' A.block = some (.cells c ty (0, 0)) ∧ A.spot = none ∧ A.off + 1 ≤ c.size) ∧ X (H'.upd A.block (.cells (writeCells c A.off [v]) ty (0, 0))) := by
  obtain ⟨f1, f2, f3, f4, ⟨l3, f5, f6⟩, a3, n3, c3, f8, f9, f10⟩ := h
  refine ⟨a3, n3, c3, cells_at f8 (k := 2) rfl, _, f9, by simp [cells]; omega, ptr rfl (ptr rfl fun v H3 g1 g2 _ g4 => ptr rfl ?_)⟩
  obtain ⟨a4, c4, rfl⟩ := row_val g4
  have keep : ∀ x ob, (∀ k, blockOf (.slice a3 n3 c3) = some k → k ≠ x) → H x = some ob → H3 x = some ob := fun x ob h1 h2 => g1 _ _ (delO_keep h1 h2)
  have hb3 := keep b _ (fun k e => (f10 k e).2.1) f8
  have hG3 : G ≤ H3 := fun x ob e => keep x ob (fun k e' => by rintro rfl; rw [(f10 k e').1] at e; cases e) (f1 _ _ e)
  have fresh : ∀ k, blockOf (.slice a4 (List.append (cells out) [[vi y]]).length c4) = some k → ∀ x ob, (∀ k, blockOf (.slice a3 n3 c3) = some k → k ≠ x) → H x = some ob → k ≠ x := fun k e x ob h1 h2 => by
    rintro rfl
    have := g2 k e
    rw [delO_keep h1 h2] at this; cases this
  obtain ⟨p1, p2⟩ := cells_put hb3 (k := 2) (by simp [wkL]) (.slice a4 (List.append (cells out) [[vi y]]).length c4)
  refine ⟨_, _, p1, hX _ ?_⟩
  rw [p2]
  have hnb : ∀ k, blockOf (.slice a4 (List.append (cells out) [[vi y]]).length c4) = some k → k ≠ b := fun k e => fresh k e b _ (fun k e => (f10 k e).2.1) f8
  have hmap : ∃ es clk, H r = some (.map es clk) := by obtain ⟨es, clk, e, _⟩ := f5; exact ⟨es, clk, e⟩
  obtain ⟨es3, clk3, hm3⟩ := hmap
  refine ⟨le_upd hG3 f2 _, f2, f3, f4, ⟨l3, map_same f5 (fun o e => ?_), f6⟩, a4, _, c4, upd_same _ _ _, ?_, fun k e => ⟨?_, hnb k e, fresh k e r _ (fun k e => (f10 k e).2.2) hm3⟩⟩
  · rw [upd_ne _ _ (Ne.symm f4)]; exact keep r o (fun k e => (f10 k e).2.2) e
  · have : cells (out ++ [y]) = List.append (cells out) [[vi y]] := by simp [cells]
    rw [this]
    exact row_le g4 fun k o e q => by rw [upd_ne _ _ (hnb k e)]; exact q
  · cases e' : G k with
    | none => rfl
    | some ob => exact absurd rfl (fresh k e k ob (fun k' e2 e3 => by rw [e3] at e2; rw [(f10 k e2).1] at e'; cases e') (f1 _ _ e'))
theorem s_wshape_not {G : Heap} {g : Addr} {b r r0 : Nat} {m : M} {met : Int → Bool} {out : List Int} {id : Int} (hC : WkAt G g b r met out H) (hg : GroveAt G g r0 m) (hD : Dom m) (hn : m id = none ∨ met id = true)
    (k : ∀ H', WkAt G g b r met out H' → R (.returned unitV) H') : Meets prog 74 [.pointer (some ⟨b, 0, none⟩), vi id] H R := by
  refine spec_of func74 (by kernel_rfl) (fun t h => by cases h) ?_ (vc_wshape ⟨b, 0, none⟩ id R H) ?_
  · simp [argsR, SV.rep, SC.rep, one]
  unfold nf_wshape
  have hC0 := hC
  obtain ⟨h1, h2, h3, h4, ⟨l, h5, h6⟩, a, n, c, h8, h9, h10⟩ := hC0
  refine ptr rfl (ptr rfl (ptr rfl ⟨_, cells_at h8 (k := 0) rfl, ?_⟩))
  refine s_get (hg.le h1) (fun d e => Nat.le_trans (hD.few e) (by omega)) fun v H1 hle hv => ?_
  have hC1 := hC.mono hle
  obtain ⟨a', n', c', rfl, hs, hk, hc⟩ := hv
  refine ⟨_, a', n', c', _, _, hk, _, hc, _, rfl, br (fun q => k _ hC1) fun q => ?_⟩
  obtain ⟨d1, d2, d3, d4, ⟨l', d5, d6⟩, a2, n2, c2, d8, d9, d10⟩ := hC1
  rcases hn with hn | hn
  · rw [hn] at q; simp at q
  · have := map_look d5 id (.bool false)
    rw [d6, hn] at this
    exact ptr rfl (ptr rfl (ptr rfl ⟨_, cells_at d8 (k := 1) rfl, true, ⟨_, this⟩, br (fun _ => k _ (hC.mono hle)) fun q => by cases q⟩))
theorem s_wshape_leaf {G : Heap} {g : Addr} {b r r0 : Nat} {m : M} {met : Int → Bool} {out : List Int} {id : Int} {d : Nd} (hC : WkAt G g b r met out H) (hg : GroveAt G g r0 m) (hD : Dom m) (hd : m id = some d) (hlf : d.leaf = true) (hm : met id = false) (hl : out.length ≤ 1000000)
    (k : ∀ H', WkAt G g b r (fun j => j == id || met j) (out ++ [(d.pts.length : Int)]) H' → Meets prog 74 [.pointer (some ⟨b, 0, none⟩), vi d.next] H' fun e H'' => e = .returned unitV ∧ R (.returned unitV) H'') :
    Meets prog 74 [.pointer (some ⟨b, 0, none⟩), vi id] H R := by
  refine spec_of func74 (by kernel_rfl) (fun t h => by cases h) ?_ (vc_wshape ⟨b, 0, none⟩ id R H) ?_
  · simp [argsR, SV.rep, SC.rep, one]
  unfold nf_wshape
  have hC0 := hC
  obtain ⟨h1, h2, h3, h4, ⟨l, h5, h6⟩, a, n, c, h8, h9, h10⟩ := hC0
  refine ptr rfl (ptr rfl (ptr rfl ⟨_, cells_at h8 (k := 0) rfl, ?_⟩))
  refine s_get (hg.le h1) (fun d e => Nat.le_trans (hD.few e) (by omega)) fun v H1 hle hv => ?_
  rw [hd] at hv ⊢
  change NdAt H1 v d at hv
  have hC1 := hC.mono hle
  obtain ⟨a', n', c', rfl, hs, hk, hc⟩ := hv
  have hlen : d.pts.length = n' := by simpa [pts] using (slice_len hs).1
  subst hlen
  refine ⟨_, a', _, c', _, _, hk, _, hc, _, rfl, br (fun q => by simp at q) fun q => ?_⟩
  obtain ⟨d1, d2, d3, d4, ⟨l', d5, d6⟩, a2, n2, c2, d8, d9, d10⟩ := hC1
  have hlk := map_look d5 id (.bool false)
  rw [d6, hm] at hlk
  obtain ⟨es, clk, e1, hC2⟩ := (hC.mono hle).put id
  refine ptr rfl (ptr rfl (ptr rfl ⟨_, cells_at d8 (k := 1) rfl, false, ⟨_, hlk⟩, br (fun q => by cases q) fun _ => ptr rfl (ptr rfl (ptr rfl ⟨_, cells_at d8 (k := 1) rfl, mapk rfl ⟨es, clk, e1, br (fun _ => ?_) fun q => by rw [hlf] at q; cases q⟩⟩))⟩))
  exact ptr rfl (ptr rfl (ptr rfl (hC2.push hl (d.pts.length : Int) fun H' hC' => k H' hC')))
def ksum (ks : List Int) : Nat → Int
  | 0 => -1
  | q + 1 => ksum ks q - if ks.getD q 0 > 0 then 2 ^ q else 0
theorem ksum_range (ks : List Int) : ∀ q, q ≤ 4 → -(2 : Int) ^ q ≤ ksum ks q ∧ ksum ks q ≤ -1
  | 0, _ => by simp [ksum]
  | q + 1, hq => by
    have h1 := ksum_range ks q (by omega)
    unfold ksum
    have h2 : (2 : Int) ^ (q + 1) = 2 * 2 ^ q := by rw [Int.pow_succ]; omega
    have h3 := pow_le (h := q) (by omega)
    split <;> omega
theorem two_pow' {q : Nat} (hq : q < 4) : shlI .i64 1 (q : Int) = 2 ^ q ∧ (2 : Int) ^ q ≤ 8 := by
  rcases four_eq hq with rfl | rfl | rfl | rfl <;> decide
theorem s_wshape_inner {G : Heap} {g : Addr} {b r r0 : Nat} {m : M} {met : Int → Bool} {out : List Int} {id : Int} {d : Nd} (hC : WkAt G g b r met out H) (hg : GroveAt G g r0 m) (hD : Dom m) (hd : m id = some d) (hlf : d.leaf = false) (hm : met id = false) (hl : out.length ≤ 1000000)
    (I : Nat → Heap → Prop) (k0 : ∀ H', WkAt G g b r (fun j => j == id || met j) (out ++ [ksum d.kids 4]) H' → I 0 H')
    (k1 : ∀ q, q < 4 → ∀ H', I q H' → ∀ R', (∀ H'', I (q + 1) H'' → R' (.returned unitV) H'') → Meets prog 74 [.pointer (some ⟨b, 0, none⟩), vi (d.kids.getD q 0)] H' R')
    (k2 : ∀ H', I 4 H' → R (.returned unitV) H') : Meets prog 74 [.pointer (some ⟨b, 0, none⟩), vi id] H R := by
  refine spec_of func74 (by kernel_rfl) (fun t h => by cases h) ?_ (vc_wshape ⟨b, 0, none⟩ id R H) ?_
  · simp [argsR, SV.rep, SC.rep, one]
  unfold nf_wshape
  have hC0 := hC
  obtain ⟨h1, h2, h3, h4, ⟨l, h5, h6⟩, a, n, c, h8, h9, h10⟩ := hC0
  refine ptr rfl (ptr rfl (ptr rfl ⟨_, cells_at h8 (k := 0) rfl, ?_⟩))
  refine s_get (hg.le h1) (fun d e => Nat.le_trans (hD.few e) (by omega)) fun v H1 hle hv => ?_
  rw [hd] at hv ⊢
  change NdAt H1 v d at hv
  have hC1 := hC.mono hle
  obtain ⟨a', n', c', rfl, hs, hk, hc⟩ := hv
  refine ⟨_, a', _, c', _, _, hk, _, hc, _, rfl, br (fun q => by simp at q) fun q => ?_⟩
  obtain ⟨d1, d2, d3, d4, ⟨l', d5, d6⟩, a2, n2, c2, d8, d9, d10⟩ := hC1
  have hlk := map_look d5 id (.bool false)
  rw [d6, hm] at hlk
  obtain ⟨es, clk, e1, hC2⟩ := (hC.mono hle).put id
  refine ptr rfl (ptr rfl (ptr rfl ⟨_, cells_at d8 (k := 1) rfl, false, ⟨_, hlk⟩, br (fun q => by cases q) fun _ => ptr rfl (ptr rfl (ptr rfl ⟨_, cells_at d8 (k := 1) rfl, mapk rfl ⟨es, clk, e1, br (fun q => by rw [hlf] at q; cases q) fun _ => ?_⟩⟩))⟩))
  simp only [true_and]
  generalize H1.upd r (mapPut es clk .i64 id (.bool true)) = H2 at *
  refine ⟨fun p H' => ∃ q : Nat, p.1.1 = ksum d.kids q ∧ p.1.2.1 = (q : Int) ∧ q ≤ 4 ∧ H' = H2, fun p _ => (4 - p.1.2.1).toNat, ⟨0, rfl, rfl, by omega, rfl⟩, ?_⟩
  rintro ⟨⟨s, i, _⟩, _⟩ H3 ⟨u, hs1, hi, hu, rfl⟩
  simp only at hs1 hi ⊢
  subst hs1; subst hi
  refine br (fun q => ?_) fun q => ?_
  · simp only [decide_eq_true_eq] at q
    have hr := ksum_range d.kids u (by omega)
    have hpw := pow_le (h := u) (by omega)
    obtain ⟨t1, t2⟩ := two_pow' (q := u) (by omega)
    rw [Int.toNat_natCast, t1, w64 (k := (u : Int) + 1) (by omega), w64 (k := ksum d.kids u - 2 ^ u) (by omega)]
    refine ⟨⟨by omega, by omega⟩, br (fun q1 => ?_) fun q1 => ?_⟩
    · simp only [decide_eq_true_eq] at q1
      refine ⟨by omega, ⟨u + 1, ?_, by omega, by omega, trivial⟩, by omega⟩
      conv => rhs; unfold ksum
      rw [if_pos q1]
    · simp only [decide_eq_false_iff_not] at q1
      refine ⟨⟨u + 1, ?_, by omega, by omega, trivial⟩, by omega⟩
      conv => rhs; unfold ksum
      rw [if_neg q1]; omega
  · simp only [decide_eq_false_iff_not] at q
    obtain rfl : u = 4 := by omega
    refine ptr rfl (ptr rfl (ptr rfl (hC2.push hl (ksum d.kids 4) fun H4 hC4 => ?_)))
    refine ⟨fun p H' => ∃ q : Nat, p.1.1 = (q : Int) ∧ q ≤ 4 ∧ I q H', fun p _ => (4 - p.1.1).toNat, ⟨0, rfl, by omega, k0 _ hC4⟩, ?_⟩
    rintro ⟨⟨i, _⟩, _⟩ H5 ⟨u, hi, hu, hI⟩
    simp only at hi ⊢
    subst hi
    refine br (fun q => ?_) fun q => ?_
    · simp only [decide_eq_true_eq] at q
      rw [Int.toNat_natCast]
      refine ⟨⟨by omega, by omega⟩, k1 u (by omega) _ hI _ fun H6 hI6 => ⟨rfl, ⟨u + 1, ?_, by omega, hI6⟩, ?_⟩⟩ <;> rw [w64 (by omega)] <;> omega
    · simp only [decide_eq_false_iff_not] at q
      obtain rfl : u = 4 := by omega
      exact k2 _ hI
theorem s_wshape_chain {G : Heap} {g : Addr} {b r r0 : Nat} {m : M} (hg : GroveAt G g r0 m) (hD : Dom m) : ∀ (T : List Int) {L : List Pt} {met : Int → Bool} {out : List Int} {id : Int} {H : Heap} {R : Ending → Heap → Prop}, T.head? = some id → ChP m T L → T.Nodup → (∀ j ∈ T, met j = false) → out.length + T.length ≤ 1000 → WkAt G g b r met out H →
    (∀ H', WkAt G g b r (fun j => decide (j ∈ T) || met j) (out ++ shpC L.length) H' → R (.returned unitV) H') → Meets prog 74 [.pointer (some ⟨b, 0, none⟩), vi id] H R
  | [], L, met, out, id, H, R, e, hc, _, _, _, _, _ => by cases e
  | [i], L, met, out, id, H, R, e, hc, hn, hm, hl, hC, k => by
    cases e
    obtain ⟨h4, hd⟩ := hc
    refine s_wshape_leaf hC hg hD hd rfl (hm _ (List.mem_singleton.2 rfl)) (by omega) fun H' hC' => ?_
    refine s_wshape_not hC' hg hD (.inl ?_) fun H'' hC'' => ⟨rfl, k _ ?_⟩
    · cases e : m 0 with
      | none => rfl
      | some d => have := (hD 0 d e).1; omega
    · have e1 : (fun j => j == i || met j) = fun j => decide (j ∈ [i]) || met j := by
        funext j; by_cases e : j = i <;> simp [e]
      rw [shpC, if_pos h4, ← e1]
      exact hC''
  | i :: nx :: T, L, met, out, id, H, R, e, hc, hn, hm, hl, hC, k => by
    cases e
    obtain ⟨h4, hd, hr⟩ := hc
    have hn' := List.nodup_cons.1 hn
    simp only [List.length_cons] at hl
    refine s_wshape_leaf hC hg hD hd rfl (hm _ (List.mem_cons_self ..)) (by omega) fun H' hC' => ?_
    refine s_wshape_chain hg hD (nx :: T) rfl hr hn'.2 (fun j hj => ?_) (by simp; omega) hC' fun H'' hC'' => ⟨rfl, k _ ?_⟩
    · rw [hm j (List.mem_cons_of_mem _ hj)]
      have : j ≠ i := fun e => hn'.1 (e ▸ hj)
      simp [this]
    · have e1 : shpC L.length = ((L.take 4).length : Int) :: shpC (L.drop 4).length := by
        rw [shpC, if_neg (by omega)]
        simp only [List.length_take, List.length_drop]
        rw [show min 4 L.length = 4 by omega]
        rfl
      have e2 : (fun j => decide (j ∈ i :: nx :: T) || met j) = fun j => decide (j ∈ nx :: T) || (j == i || met j) := by
        funext j
        by_cases h1 : j = i <;> by_cases h2 : j ∈ nx :: T <;> simp [h1, h2]
      have e3 : out ++ ((L.take 4).length : Int) :: shpC (L.drop 4).length = out ++ [((L.take 4).length : Int)] ++ shpC (L.drop 4).length := by simp
      rw [e1, e2, e3]
      exact hC''
theorem ksum_qsum {h : Nat} {L : List Pt} {m : M} {ks cs : List Int} {J : Nat → List Int} (hJ : ∀ q : Nat, q < 4 → SubP (TrP m h) (ks.getD q 0) (cs.getD q 0) (quarter h q L) (J q)) : ∀ q, q ≤ 4 → ksum ks q = qsum h L q
  | 0, _ => rfl
  | q + 1, hq => by
    unfold ksum qsum qb
    rw [ksum_qsum hJ q (by omega)]
    rcases hJ q (by omega) with ⟨e1, e2, _, _⟩ | ⟨e1, e2, _, _⟩
    · rw [if_neg (by omega), if_pos e1]
    · rw [if_pos (by omega), if_neg e1]
theorem s_wshape_tree {G : Heap} {g : Addr} {b r r0 : Nat} {m : M} (hg : GroveAt G g r0 m) (hD : Dom m) : ∀ (h : Nat) {L : List Pt} {I : List Int} {met : Int → Bool} {out : List Int} {id : Int} {H : Heap} {R : Ending → Heap → Prop}, h ≤ 32 → TrP m h id L I → I.Nodup → (∀ j ∈ I, met j = false) → out.length + I.length ≤ 1000 → WkAt G g b r met out H →
    (∀ H', WkAt G g b r (fun j => decide (j ∈ I) || met j) (out ++ shpN h L) H' → R (.returned unitV) H') → Meets prog 74 [.pointer (some ⟨b, 0, none⟩), vi id] H R := by
  have hm0 : m 0 = none := by
    cases e : m 0 with
    | none => rfl
    | some d => have := (hD 0 d e).1; omega
  intro h
  induction h with
  | zero => intro L I met out id H R hh ht hn hm hl hC k; exact s_wshape_chain hg hD I ht.1 ht.2 hn hm hl hC k
  | succ h ih =>
    intro L I met out id H R hh ht hn hm hl hC k
    have ht0 := ht
    unfold TrP at ht
    by_cases h4 : L.length ≤ 4
    · rw [if_pos h4] at ht
      unfold shpN at k
      rw [if_pos h4] at k
      obtain ⟨rfl, hch⟩ := ht
      have e1 : shpC L.length = [(L.length : Int)] := by rw [shpC, if_pos h4]
      rw [← e1] at k
      exact s_wshape_chain hg hD _ rfl hch hn hm hl hC k
    · rw [if_neg h4] at ht
      rw [shpN_succ h4] at k
      obtain ⟨ks, cs, J, hd, hk4, hc4, rfl, hJ⟩ := ht
      have hI : id :: (J 0 ++ (J 1 ++ (J 2 ++ J 3))) = id :: JJ J 4 := by simp [JJ]
      rw [hI] at hn hm hl k
      have sub : ∀ q, q < 4 → (JJ J (q + 1)).Sublist (JJ J 4) := fun q hq => by
        rcases four_eq hq with rfl | rfl | rfl | rfl
        · simp [JJ]
        · simp [JJ]
        · simp only [JJ]; exact List.sublist_append_left _ _
        · exact List.Sublist.refl _
      have len : ∀ q, q ≤ 4 → (SS h L q).length = (JJ J q).length := fun q => by
        induction q with
        | zero => intro _; rfl
        | succ q ihq =>
          intro hq
          simp only [SS, JJ, List.length_append, ihq (by omega)]
          congr 1
          rcases hJ q (by omega) with ⟨e1, _, _, e4⟩ | ⟨e1, _, _, e4⟩
          · rw [if_pos e1, e4]
          · rw [if_neg e1, shpN_len, TrP_len e4]
      simp only [List.length_cons] at hl
      refine s_wshape_inner hC hg hD hd rfl (hm _ (List.mem_cons_self ..)) (by omega) (fun q H' => WkAt G g b r (fun j => decide (j ∈ id :: JJ J q) || met j) (out ++ (qsum h L 4 :: SS h L q)) H') (fun H' hC' => ?_) (fun q hq H' hC' R' k' => ?_) k
      · have e1 : (fun j => j == id || met j) = fun j => decide (j ∈ id :: JJ J 0) || met j := by
          funext j; by_cases e : j = id <;> simp [e, JJ]
        rw [← e1]
        rw [show (Nd.kids ⟨false, [], 0, ks, cs⟩) = ks from rfl, ksum_qsum hJ 4 (by omega)] at hC'
        exact hC'
      · rcases hJ q hq with ⟨e1, e2, _, e4⟩ | ⟨e1, _, _, e4⟩
        · rw [show (Nd.kids ⟨false, [], 0, ks, cs⟩).getD q 0 = 0 from e2]
          refine s_wshape_not hC' hg hD (.inl hm0) fun H'' hC'' => k' _ ?_
          simp only [JJ, SS, e1, e4, if_true, List.append_nil]
          exact hC''
        · have hnd := hn.sublist ((sub q hq).cons_cons id)
          have hnd2 := List.nodup_cons.1 hnd
          have hnd3 := List.nodup_append.1 (show (JJ J q ++ J q).Nodup from hnd2.2)
          have hsl : (JJ J q).length + (J q).length ≤ (JJ J 4).length := by
            have := (sub q hq).length_le
            rwa [show JJ J (q + 1) = JJ J q ++ J q from rfl, List.length_append] at this
          have hlq := len q (by omega)
          refine ih (by omega) e4 hnd3.2.1 (fun j hj => ?_) (by simp only [List.length_append, List.length_cons]; omega) hC' fun H'' hC'' => k' _ ?_
          · have hj4 : j ∈ JJ J (q + 1) := List.mem_append_right _ hj
            rw [hm j (List.mem_cons_of_mem _ ((sub q hq).subset hj4)), Bool.or_false, decide_eq_false_iff_not]
            intro hjm
            rcases List.mem_cons.1 hjm with rfl | hjm
            · exact hnd2.1 hj4
            · exact hnd3.2.2 j hjm j hj rfl
          · have e5 : (fun j => decide (j ∈ id :: JJ J (q + 1)) || met j) = fun j => decide (j ∈ J q) || (decide (j ∈ id :: JJ J q) || met j) := by
              funext j
              rw [show JJ J (q + 1) = JJ J q ++ J q from rfl]
              simp only [List.mem_cons, List.mem_append]
              by_cases h1 : j = id <;> by_cases h2 : j ∈ J q <;> by_cases h3 : j ∈ JJ J q <;> simp [h1, h2, h3]
            have e6 : SS h L (q + 1) = SS h L q ++ shpN h (quarter h q L) := by show SS h L q ++ _ = _; rw [if_neg e1]
            rw [e5, e6, ← List.cons_append, ← List.append_assoc]
            exact hC''
theorem s_tshape {g : Addr} {r0 : Nat} {m : M} {L : List Pt} {I : List Int} (hg : GroveAt H g r0 m) (hT : TreeOK m L I) (k : ∀ v H', H ≤ H' → (∀ b, blockOf v = some b → H b = none) → RowAt H' v 3 1 (cells (shpN 32 L)) → R (.returned v) H') : Meets prog 41 [.pointer (some g)] H R := by
  refine spec_of func41 (by kernel_rfl) (fun t h => by cases h) ?_ (vc_tshape (some g) R H) ?_
  · simp [argsR, SV.rep, SC.rep, one]
  unfold nf_tshape
  intro r hr b hb
  have hne : b ≠ r := by rintro rfl; rw [upd_same] at hb; cases hb
  rw [upd_ne _ _ hne] at hb
  have hC : WkAt H g b r (fun _ => false) [] ((H.upd r (.map #[] 0)).upd b (.cells #[.pointer (some g), .map (some r), .slice none 0 0] 117 (0, 0))) :=
    ⟨le_upd (le_upd (heap_refl _) hr _) hb _, hb, hr, hne, ⟨[], map_same (map_new H r .i64) (fun o e => by rw [upd_ne _ _ (Ne.symm hne)]; exact e), fun id => rfl⟩, none, 0, 0, upd_same _ _ _, .inl ⟨rfl, rfl⟩, fun k e => by cases e⟩
  have hfr := hT.free
  have hl := TrP_len hT.tr
  refine s_wshape_tree hg hT.dom 32 (Nat.le_refl _) hT.tr hT.nd (fun _ _ => rfl) (by simp; omega) hC fun H2 hC2 => ⟨rfl, ?_⟩
  obtain ⟨f1, f2, f3, f4, f5, a3, n3, c3, f8, f9, f10⟩ := hC2
  refine ⟨some g, some r, a3, n3, c3, ⟨b, rfl, f8⟩, k _ _ (fun x ob e => ?_) (fun x e => (f10 x e).1) (row_le f9 fun x o e q => delO_keep (fun k e' => by cases e'; exact (Ne.symm (f10 x e).2.1)) q)⟩
  exact delO_keep (fun k e' => by cases e'; rintro rfl; rw [f2] at e; cases e) (f1 _ _ e)
theorem s_tshape_nil (k : ∀ H', H ≤ H' → R (.returned (.slice none 0 0)) H') : Meets prog 41 [.pointer none] H R := by
  refine spec_of func41 (by kernel_rfl) (fun t h => by cases h) ?_ (vc_tshape none R H) ?_
  · simp [argsR, SV.rep, SC.rep, one]
  unfold nf_tshape
  intro r hr b hb
  have hne : b ≠ r := by rintro rfl; rw [upd_same] at hb; cases hb
  rw [upd_ne _ _ hne] at hb
  refine spec_of func74 (by kernel_rfl) (fun t h => by cases h) ?_ (vc_wshape ⟨b, 0, none⟩ 1 _ _) ?_
  · simp [argsR, SV.rep, SC.rep, one]
  unfold nf_wshape
  have h8 := upd_same (H.upd r (.map #[] 0)) b (.cells #[.pointer none, .map (some r), .slice none 0 0] 117 (0, 0))
  have hle0 : H ≤ (H.upd r (.map #[] 0)).upd b (.cells #[.pointer none, .map (some r), .slice none 0 0] 117 (0, 0)) := le_upd (le_upd (heap_refl _) hr _) hb _
  refine ptr rfl (ptr rfl (ptr rfl ⟨none, cells_at h8 (k := 0) rfl, s_get_nil fun v H1 hle hv => ?_⟩))
  obtain ⟨a, n, c, rfl, _, hk, hc⟩ := hv
  refine ⟨_, a, n, c, _, _, hk, _, hc, _, rfl, br (fun _ => ⟨rfl, ?_⟩) fun q => by cases q⟩
  exact ⟨none, some r, none, 0, 0, ⟨b, rfl, hle _ _ h8⟩, k _ fun x ob e => delO_keep (fun k e' => by cases e'; rintro rfl; rw [hb] at e; cases e) (hle _ _ (hle0 _ _ e))⟩
end
end Cr

/- StatsTells, StatsSums: the laws' walks. -/
set_option linter.unusedVariables false
set_option linter.unusedSimpArgs false
namespace Cr
open Go Sx Stb Bt
open Go.Proofs.Try
set_option maxRecDepth 100000
def h_ltells : Hints := { eqs := [38], loops := [(11, ⟨[0, 3, 5, 6], [.f 7 (.int .i64), .f 8 (.int .i64), .f 9 (.int .i64)], [.box 6 38 [.ints .i64 5]]⟩)] }
def h_lsums : Hints := { loops := [(10, ⟨[0, 3, 6, 7, 8], [.f 5 (.int .i64), .f 9 (.int .i64)], [.keep 8]⟩), (14, ⟨[0, 3, 5, 7, 8], [.f 6 (.int .i64), .f 10 (.int .i64)], [.keep 8]⟩)] }
def nf_ltells (a : Option Addr) (n : Nat) (c : Nat) (R : Ending → Heap → Prop) (H : Heap) : Prop := Meets prog (18 : Nat) [] H fun (e : Ending) (H' : Nat → Option Obj) ↦ ∃ (b : Bool), e = Ending.returned (Value.bool b) ∧ Br (!b) (R (Ending.returned (Value.bool false)) H') (Meets prog (21 : Nat) [Value.slice a n c, Value.int IntKind.i64 (40 : Int)] H' fun (e : Ending) (H' : Nat → Option Obj) ↦ ∃ (a : Option Addr), ∃ (n : Nat), ∃ (c : Nat), e = Ending.returned (Value.slice a n c) ∧ Meets prog (22 : Nat) [Value.slice a n c] H' fun (e : Ending) (H' : Nat → Option Obj) ↦ ∃ (a_1 : Option Addr), ∃ (n_1 : Int), e = Ending.returned (Value.tuple { toList := [Value.pointer a_1, Value.int IntKind.i64 n_1] }) ∧ Br (n_1 != (0 : Int)) (R (Ending.returned (Value.bool true)) H') (Meets prog (23 : Nat) [Value.slice a n c] H' fun (e : Ending) (H' : Nat → Option Obj) ↦ ∃ (a_2 : Option Addr), ∃ (n_2 : Nat), ∃ (c_1 : Nat), e = Ending.returned (Value.slice a_2 n_2 c_1) ∧ a = a ∧ n = n ∧ c = c ∧ a_1 = a_1 ∧ a_2 = a_2 ∧ n_2 = n_2 ∧ c_1 = c_1 ∧ (0 : Nat) = (0 : Nat) ∧ LoopP (fun (K : (Int × Int × Int × PUnit) × (List Int × PUnit) × PUnit → (Nat → Option Obj) → Prop) (p : (Int × Int × Int × PUnit) × (List Int × PUnit) × PUnit) (H : Nat → Option Obj) ↦ Br (decide (p.fst.snd.snd.fst < (↑n_2 : Int))) (((0 : Int) ≤ p.fst.snd.snd.fst ∧ p.fst.snd.snd.fst < (↑n_2 : Int)) ∧ PtrK a_2 fun (A : Addr) ↦ PtrK (some (Addr.add A (Int.toNat p.fst.snd.snd.fst * (1 : Nat)))) fun (a_3 : Addr) ↦ ∃ (n_3 : Int), Heap.has H a_3 [Value.int IntKind.i64 n_3] ∧ Br (decide (n_3 < (0 : Int))) (a = a ∧ n = n ∧ c = c ∧ a_1 = a_1 ∧ a_2 = a_2 ∧ n_2 = n_2 ∧ c_1 = c_1 ∧ (0 : Nat) = (0 : Nat) ∧ K ((p.fst.fst, IntKind.wrap IntKind.i64 (p.fst.snd.fst + (1 : Int)), IntKind.wrap IntKind.i64 (p.fst.snd.snd.fst + (1 : Int)), PUnit.unit), (p.snd.fst.fst, PUnit.unit), PUnit.unit) H) (((0 : Int) ≤ p.fst.snd.snd.fst ∧ p.fst.snd.snd.fst < (↑n_2 : Int)) ∧ PtrK a_2 fun (A : Addr) ↦ PtrK (some (Addr.add A (Int.toNat p.fst.snd.snd.fst * (1 : Nat)))) fun (a_4 : Addr) ↦ ∃ (n_4 : Int), Heap.has H a_4 [Value.int IntKind.i64 n_4] ∧ ((0 : Int) ≤ n_4 ∧ n_4 < (↑(5 : Nat) : Int)) ∧ ((0 : Int) ≤ n_4 ∧ n_4 < (↑(5 : Nat) : Int)) ∧ a = a ∧ n = n ∧ c = c ∧ a_1 = a_1 ∧ a_2 = a_2 ∧ n_2 = n_2 ∧ c_1 = c_1 ∧ (0 : Nat) = (0 : Nat) ∧ K ((IntKind.wrap IntKind.i64 (p.fst.fst + (1 : Int)), p.fst.snd.fst, IntKind.wrap IntKind.i64 (p.fst.snd.snd.fst + (1 : Int)), PUnit.unit), (List.set p.snd.fst.fst (Int.toNat n_4) (IntKind.wrap IntKind.i64 (List.getD p.snd.fst.fst (Int.toNat n_4) (0 : Int) + (1 : Int))), PUnit.unit), PUnit.unit) H)) (Meets prog (24 : Nat) [Value.pointer a_1] H fun (e : Ending) (H' : Nat → Option Obj) ↦ ∃ (n_3 : Int), ∃ (n_4 : Int), e = Ending.returned (Value.tuple { toList := [Value.int IntKind.i64 n_3, Value.int IntKind.i64 n_4] }) ∧ ∃ (G : Nat → Option Obj), G ≤ H' ∧ Meets prog (25 : Nat) [Value.pointer a_1] H' fun (e : Ending) (H'_1 : Nat → Option Obj) ↦ Keep G H' H' H'_1 ∧ ∃ (a_3 : Option Addr), ∃ (n_5 : Nat), ∃ (c_2 : Nat), e = Ending.returned (Value.slice a_3 n_5 c_2) ∧ Meets prog (26 : Nat) [Value.slice a n c] (delLs H'_1 []) fun (e : Ending) (H' : Nat → Option Obj) ↦ Keep G (delLs H'_1 []) (delLs H'_1 []) H' ∧ ∃ (a : Option Addr), ∃ (n : Nat), ∃ (c : Nat), e = Ending.returned (Value.slice a n c) ∧ Meets prog (19 : Nat) [Value.slice a_3 n_5 c_2, Value.slice a n c] (delLs H' []) fun (e : Ending) (H'_2 : Nat → Option Obj) ↦ Keep G (delLs H' []) (delLs H' []) H'_2 ∧ ∃ (b : Bool), e = Ending.returned (Value.bool b) ∧ Br b (Br (n_3 == p.fst.fst) (Br (n_4 == p.fst.snd.fst) (Meets prog (27 : Nat) [Value.pointer a_1] (delLs H'_2 []) fun (e : Ending) (H' : Nat → Option Obj) ↦ Keep G (delLs H'_2 []) (delLs H'_2 []) H' ∧ ∃ (xs : List Int), List.length xs = (5 : Nat) ∧ e = Ending.returned (Value.agg { toList := List.append (List.map (Value.int IntKind.i64) xs) (flatD []) }) ∧ Br (andO none (xs == p.snd.fst.fst)) (Meets prog (25 : Nat) [Value.pointer none] (delLs H' []) fun (e : Ending) (H'_3 : Nat → Option Obj) ↦ Keep G (delLs H' []) (delLs H' []) H'_3 ∧ ∃ (a : Option Addr), ∃ (n : Nat), ∃ (c : Nat), e = Ending.returned (Value.slice a n c) ∧ R (Ending.returned (Value.bool ((↑n : Int) == (0 : Int)))) (delLs H'_3 [])) (R (Ending.returned (Value.bool false)) (delLs H' []))) (R (Ending.returned (Value.bool false)) (delLs H'_2 []))) (R (Ending.returned (Value.bool false)) (delLs H'_2 []))) (R (Ending.returned (Value.bool false)) (delLs H'_2 [])))) (((0 : Int), (0 : Int), (0 : Int), PUnit.unit), ([(0 : Int), (0 : Int), (0 : Int), (0 : Int), (0 : Int)], PUnit.unit), PUnit.unit) H'))
theorem vc_ltells (a : Option Addr) (n : Nat) (c : Nat) (R : Ending → Heap → Prop) (H : Heap) : vcFun prog h_ltells f4 [SV.c (SC.v (Value.slice a n c))] R H = nf_ltells a n c R H := by kernel_rfl

def nf_lsums (a : Option Addr) (n : Nat) (c : Nat) (R : Ending → Heap → Prop) (H : Heap) : Prop := Meets prog (18 : Nat) [] H fun (e : Ending) (H' : Nat → Option Obj) ↦ ∃ (b : Bool), e = Ending.returned (Value.bool b) ∧ Br (!b) (R (Ending.returned (Value.bool false)) H') (Meets prog (21 : Nat) [Value.slice a n c, Value.int IntKind.i64 (40 : Int)] H' fun (e : Ending) (H' : Nat → Option Obj) ↦ ∃ (a : Option Addr), ∃ (n : Nat), ∃ (c : Nat), e = Ending.returned (Value.slice a n c) ∧ Meets prog (22 : Nat) [Value.slice a n c] H' fun (e : Ending) (H' : Nat → Option Obj) ↦ ∃ (a_1 : Option Addr), ∃ (n_1 : Int), e = Ending.returned (Value.tuple { toList := [Value.pointer a_1, Value.int IntKind.i64 n_1] }) ∧ Br (n_1 != (0 : Int)) (R (Ending.returned (Value.bool true)) H') (Meets prog (25 : Nat) [Value.pointer a_1] H' fun (e : Ending) (H' : Nat → Option Obj) ↦ ∃ (a_2 : Option Addr), ∃ (n_2 : Nat), ∃ (c_1 : Nat), e = Ending.returned (Value.slice a_2 n_2 c_1) ∧ Meets prog (27 : Nat) [Value.pointer a_1] H' fun (e : Ending) (H' : Nat → Option Obj) ↦ ∃ (xs : List Int), List.length xs = (5 : Nat) ∧ e = Ending.returned (Value.agg { toList := List.append (List.map (Value.int IntKind.i64) xs) (flatD []) }) ∧ a = a ∧ n = n ∧ c = c ∧ a_1 = a_1 ∧ (0 : Int) = (0 : Int) ∧ a_2 = a_2 ∧ n_2 = n_2 ∧ c_1 = c_1 ∧ (0 : Nat) = (0 : Nat) ∧ xs = xs ∧ LoopP (fun (K : (Int × Int × PUnit) × PUnit × PUnit → (Nat → Option Obj) → Prop) (p : (Int × Int × PUnit) × PUnit × PUnit) (H : Nat → Option Obj) ↦ Br (decide (p.fst.snd.fst < (↑n_2 : Int))) (((0 : Int) ≤ p.fst.snd.fst ∧ p.fst.snd.fst < (↑n_2 : Int)) ∧ PtrK a_2 fun (A : Addr) ↦ PtrK (some (Addr.add A (Int.toNat p.fst.snd.fst * (1 : Nat)))) fun (a_3 : Addr) ↦ ∃ (n_3 : Int), Heap.has H a_3 [Value.int IntKind.i64 n_3] ∧ a = a ∧ n = n ∧ c = c ∧ a_1 = a_1 ∧ (0 : Int) = (0 : Int) ∧ a_2 = a_2 ∧ n_2 = n_2 ∧ c_1 = c_1 ∧ (0 : Nat) = (0 : Nat) ∧ xs = xs ∧ K ((IntKind.wrap IntKind.i64 (p.fst.fst + n_3), IntKind.wrap IntKind.i64 (p.fst.snd.fst + (1 : Int)), PUnit.unit), PUnit.unit, PUnit.unit) H) (a = a ∧ n = n ∧ c = c ∧ a_1 = a_1 ∧ p.fst.fst = p.fst.fst ∧ a_2 = a_2 ∧ n_2 = n_2 ∧ c_1 = c_1 ∧ (0 : Nat) = (0 : Nat) ∧ xs = xs ∧ LoopP (fun (K : (Int × Int × PUnit) × PUnit × PUnit → (Nat → Option Obj) → Prop) (p_1 : (Int × Int × PUnit) × PUnit × PUnit) (H : Nat → Option Obj) ↦ Br (decide (p_1.fst.snd.fst < (5 : Int))) (((0 : Int) ≤ p_1.fst.snd.fst ∧ p_1.fst.snd.fst < (↑(5 : Nat) : Int)) ∧ a = a ∧ n = n ∧ c = c ∧ a_1 = a_1 ∧ p.fst.fst = p.fst.fst ∧ a_2 = a_2 ∧ n_2 = n_2 ∧ c_1 = c_1 ∧ (0 : Nat) = (0 : Nat) ∧ xs = xs ∧ K ((IntKind.wrap IntKind.i64 (p_1.fst.fst + IntKind.wrap IntKind.i64 (p_1.fst.snd.fst * List.getD xs (Int.toNat p_1.fst.snd.fst) (0 : Int))), IntKind.wrap IntKind.i64 (p_1.fst.snd.fst + (1 : Int)), PUnit.unit), PUnit.unit, PUnit.unit) H) (Meets prog (24 : Nat) [Value.pointer a_1] H fun (e : Ending) (H' : Nat → Option Obj) ↦ ∃ (n_3 : Int), ∃ (n_4 : Int), e = Ending.returned (Value.tuple { toList := [Value.int IntKind.i64 n_3, Value.int IntKind.i64 n_4] }) ∧ Meets prog (28 : Nat) [Value.pointer a_1] H' fun (e : Ending) (H' : Nat → Option Obj) ↦ ∃ (a : Option Addr), ∃ (n_5 : Nat), ∃ (c : Nat), e = Ending.returned (Value.slice a n_5 c) ∧ Br (p.fst.fst == (↑n_5 : Int)) (Br (IntKind.wrap IntKind.i64 (n_3 + n_4) == p.fst.fst) (Br (p_1.fst.fst == (↑n : Int)) (Br (decide ((↑n_2 : Int) ≥ (1 : Int))) (((0 : Int) ≤ (0 : Int) ∧ (0 : Int) < (↑n_2 : Int)) ∧ PtrK a_2 fun (A : Addr) ↦ PtrK (some (Addr.add A (0 : Nat))) fun (a : Addr) ↦ ∃ (n : Int), Heap.has H' a [Value.int IntKind.i64 n] ∧ Br (n == (1 : Int)) (R (Ending.returned (Value.bool (decide ((↑n_2 : Int) ≤ (33 : Int))))) H') (R (Ending.returned (Value.bool false)) H')) (R (Ending.returned (Value.bool false)) H')) (R (Ending.returned (Value.bool false)) H')) (R (Ending.returned (Value.bool false)) H')) (R (Ending.returned (Value.bool false)) H'))) (((0 : Int), (0 : Int), PUnit.unit), PUnit.unit, PUnit.unit) H)) (((0 : Int), (0 : Int), PUnit.unit), PUnit.unit, PUnit.unit) H'))
theorem vc_lsums (a : Option Addr) (n : Nat) (c : Nat) (R : Ending → Heap → Prop) (H : Heap) : vcFun prog h_lsums f5 [SV.c (SC.v (Value.slice a n c))] R H = nf_lsums a n c R H := by kernel_rfl

/-! ### Counting, plainly -/
def lvN (V : List (Nat × Int)) (i : Nat) : Nat := (V.filter fun x => x.1 == i).length
theorem lvN_snoc (V : List (Nat × Int)) (x : Nat × Int) (i : Nat) : lvN (V ++ [x]) i = lvN V i + if x.1 = i then 1 else 0 := by
  unfold lvN
  rw [List.filter_append, List.length_append]
  by_cases h : x.1 = i <;> simp [List.filter_cons, h]
theorem lvN_le (V : List (Nat × Int)) (i : Nat) : lvN V i ≤ V.length := List.length_filter_le _ _
theorem padTo_getD (l : List Int) (n i : Nat) : (padTo l n).getD i 0 = l.getD i 0 := by
  unfold padTo
  simp only [List.getD_eq_getElem?_getD]
  rcases Nat.lt_or_ge i l.length with h | h
  · rw [List.getElem?_append_left h]
  · rw [List.getElem?_append_right h, List.getElem?_eq_none (l := l) h, List.getElem?_replicate]
    split <;> rfl
theorem getD_setI {l : List Int} {q k : Nat} {x : Int} (hq : q < l.length) : (l.set q x).getD k 0 = if k = q then x else l.getD k 0 := by
  rw [getD_set hq]
  by_cases h : q = k
  · rw [if_pos h, if_pos h.symm]
  · rw [if_neg h, if_neg (Ne.symm h)]
theorem lvBump_getD (l : List Int) (lv i : Nat) : (lvBump l lv).getD i 0 = if i = lv then IntKind.i64.wrap (l.getD lv 0 + 1) else l.getD i 0 := by
  unfold lvBump
  rw [getD_setI (by rw [padTo_len]; omega), padTo_getD, padTo_getD]
theorem lvBump_length (l : List Int) (lv : Nat) : (lvBump l lv).length = max l.length (lv + 1) := by
  unfold lvBump
  rw [List.length_set, padTo_len]
theorem bumpN_ls (C : Cnt) (x : Nat × Int) : (bumpN C x).ls = lvBump C.ls x.1 := by unfold bumpN; split <;> rfl
theorem after_snoc (C : Cnt) (V : List (Nat × Int)) (x : Nat × Int) : C.after (V ++ [x]) = bumpN (C.after V) x := by rw [after_app]; rfl
theorem snocInd {α : Type} {P : List α → Prop} (h0 : P []) (h1 : ∀ V x, P V → P (V ++ [x])) (V : List α) : P V := by
  have : ∀ W : List α, P W.reverse := fun W => by
    induction W with
    | nil => exact h0
    | cons x W ih => rw [List.reverse_cons]; exact h1 _ _ ih
  have := this V.reverse
  rwa [List.reverse_reverse] at this
theorem ls_inv : ∀ V : List (Nat × Int), (∀ x ∈ V, x.1 ≤ 32) → V.length < 1000000000 → (∀ i, (cnt0.after V).ls.getD i 0 = (lvN V i : Int)) ∧ (cnt0.after V).ls.length ≤ 33 ∧ ((cnt0.after V).ls.length = 0 ∨ 0 < lvN V ((cnt0.after V).ls.length - 1)) := by
  refine snocInd ?_ ?_
  · intro _ _
    exact ⟨fun i => rfl, by decide, .inl rfl⟩
  · intro V x ih hx hl
    simp only [List.length_append, List.length_singleton] at hl
    obtain ⟨h1, h2, h3⟩ := ih (fun y hy => hx y (List.mem_append_left _ hy)) (by omega)
    have hx1 := hx x (List.mem_append_right _ (List.mem_singleton.2 rfl))
    rw [after_snoc, bumpN_ls, lvBump_length]
    refine ⟨fun i => ?_, by omega, .inr ?_⟩
    · have := lvN_le V x.1
      rw [lvBump_getD, lvN_snoc, h1, h1, w64 (by omega)]
      by_cases e : i = x.1
      · subst e; simp
      · rw [if_neg e, if_neg (Ne.symm e)]; simp
    · rw [lvN_snoc]
      by_cases e : x.1 = max (cnt0.after V).ls.length (x.1 + 1) - 1
      · rw [if_pos e]; omega
      · rcases h3 with h3 | h3
        · omega
        · rw [show max (cnt0.after V).ls.length (x.1 + 1) - 1 = (cnt0.after V).ls.length - 1 by omega]; omega
theorem levO_inv : ∀ V : List (Nat × Int), (∀ x ∈ V, x.1 ≤ 32) → V.length < 1000000000 → ∀ i, (levO (List.replicate 33 0) V).getD i 0 = (lvN V i : Int) := by
  refine snocInd ?_ ?_
  · intro _ _ i
    show (List.replicate 33 (0 : Int)).getD i 0 = 0
    rw [List.getD_eq_getElem?_getD, List.getElem?_replicate]
    split <;> rfl
  · intro V x ih hx hl i
    simp only [List.length_append, List.length_singleton] at hl
    have h1 := ih (fun y hy => hx y (List.mem_append_left _ hy)) (by omega)
    have hx1 := hx x (List.mem_append_right _ (List.mem_singleton.2 rfl))
    have := lvN_le V x.1
    rw [levO_app]
    show (List.set _ _ _).getD i 0 = _
    rw [getD_setI (by rw [levO_len]; simp; omega), lvN_snoc, h1, h1, w64 (by omega)]
    by_cases e : i = x.1
    · subst e; simp
    · rw [if_neg e, if_neg (Ne.symm e)]; simp
theorem ls_trim {V : List (Nat × Int)} (hx : ∀ x ∈ V, x.1 ≤ 32) (hl : V.length < 1000000000) {n : Nat} (ht : trimL (levO (List.replicate 33 0) V) n) : (levO (List.replicate 33 0) V).take n = (cnt0.after V).ls := by
  obtain ⟨h1, h2, h3⟩ := ls_inv V hx hl
  have h4 := levO_inv V hx hl
  have h5 : (levO (List.replicate 33 0) V).length = 33 := by rw [levO_len]; rfl
  obtain ⟨t1, t2, t3⟩ := ht
  have hn : n = (cnt0.after V).ls.length := by
    rcases Nat.lt_trichotomy n (cnt0.after V).ls.length with h | h | h
    · have := t2 ((cnt0.after V).ls.length - 1) (by omega)
      rw [h4] at this
      omega
    · exact h
    · have := t3 (by omega)
      rw [h4, ← h1, List.getD_eq_getElem?_getD, List.getElem?_eq_none (by omega)] at this
      exact absurd rfl this
  refine List.ext_getElem? fun i => ?_
  rcases Nat.lt_or_ge i n with h | h
  · rw [List.getElem?_take_of_lt h]
    have e1 := h1 i
    have e2 := h4 i
    rw [← e1, List.getD_eq_getElem?_getD, List.getD_eq_getElem?_getD, List.getElem?_eq_getElem (by omega), List.getElem?_eq_getElem (by omega)] at e2
    rw [List.getElem?_eq_getElem (by omega), List.getElem?_eq_getElem (by omega)]
    simpa using e2
  · rw [List.getElem?_eq_none (by simp; omega), List.getElem?_eq_none (by omega)]
theorem chV_len (n : Nat) : (chV n).length = nch n := by
  induction n using Nat.strongRecOn with
  | _ n ih =>
    unfold chV
    split
    · rename_i h; unfold nch; rw [if_pos h]; rfl
    · rename_i h; rw [List.length_cons, ih _ (by omega), nch_step (n := n) (by omega)]
theorem visN_len : ∀ (h : Nat) (L : List Pt), (visN h L).length = nds h L
  | 0, L => chV_len _
  | h + 1, L => by
    unfold visN nds
    split
    · rfl
    · have sub : ∀ q, ((if quarter h q L = [] then [] else visN h (quarter h q L)) : List (Nat × Int)).length = nq (nds h) (quarter h q L) := fun q => by
        unfold nq
        split
        · rfl
        · exact visN_len h _
      simp only [List.length_cons, List.length_append, sub]
      omega
def sgn (y : Int) : Int := if y < 0 then -1 else y
theorem chV_shp (n : Nat) : ((chV n).map fun x => sgn x.2) = (shpC n).map sgn := by
  induction n using Nat.strongRecOn with
  | _ n ih =>
    unfold chV shpC
    split
    · rfl
    · rename_i h; rw [List.map_cons, ih _ (by omega)]; rfl
theorem vis_shp : ∀ (h : Nat) (L : List Pt), ((visN h L).map fun x => sgn x.2) = (shpN h L).map sgn
  | 0, L => chV_shp _
  | h + 1, L => by
    by_cases hl : L.length ≤ 4
    · unfold visN shpN
      rw [if_pos hl, if_pos hl]; rfl
    · have sub : ∀ q, ((if quarter h q L = [] then [] else visN h (quarter h q L)).map fun x => sgn x.2) = (if quarter h q L = [] then [] else shpN h (quarter h q L)).map sgn := fun q => by
        split
        · rfl
        · exact vis_shp h _
      have hq := (qsum_range h L 4 (by omega)).2
      unfold visN shpN
      rw [if_neg hl, if_neg hl]
      simp only [List.map_cons, List.map_append, sub]
      congr 1
      unfold sgn
      rw [if_pos (by decide), if_pos (by omega)]
/-- What the law counts. -/
def sstep (s : Int × Int × List Int) (y : Int) : Int × Int × List Int := if y < 0 then (s.1, IntKind.i64.wrap (s.2.1 + 1), s.2.2) else (IntKind.i64.wrap (s.1 + 1), s.2.1, s.2.2.set y.toNat (IntKind.i64.wrap (s.2.2.getD y.toNat 0 + 1)))
theorem sstep_sgn (s : Int × Int × List Int) (y : Int) : sstep s (sgn y) = sstep s y := by
  unfold sgn sstep
  by_cases h : y < 0
  · simp [h]
  · simp [h]
theorem sstep_bump (C : Cnt) (x : Nat × Int) : ((bumpN C x).lv, (bumpN C x).ot, (bumpN C x).fl) = sstep (C.lv, C.ot, C.fl) x.2 := by
  unfold bumpN sstep
  split <;> rfl
theorem fold_sgn : ∀ (S : List Int) (s : Int × Int × List Int), (S.map sgn).foldl sstep s = S.foldl sstep s
  | [], s => rfl
  | y :: S, s => by rw [List.map_cons, List.foldl_cons, List.foldl_cons, sstep_sgn, fold_sgn S]
theorem after_sstep : ∀ (V : List (Nat × Int)) (C : Cnt), ((C.after V).lv, (C.after V).ot, (C.after V).fl) = (V.map fun x => x.2).foldl sstep (C.lv, C.ot, C.fl)
  | [], C => rfl
  | x :: V, C => by
    show (((bumpN C x).after V).lv, ((bumpN C x).after V).ot, ((bumpN C x).after V).fl) = _
    rw [after_sstep V, sstep_bump]; rfl
theorem cnt_shp (L : List Pt) : ((cntOf L).lv, (cntOf L).ot, (cntOf L).fl) = (shpN 32 L).foldl sstep (0, 0, [0, 0, 0, 0, 0]) := by
  unfold cntOf
  rw [after_sstep, ← fold_sgn (shpN 32 L), ← vis_shp, ← fold_sgn]
  rw [List.map_map]
  rfl
theorem shpC_le (n : Nat) : ∀ y ∈ shpC n, y ≤ 4 := by
  induction n using Nat.strongRecOn with
  | _ n ih =>
    intro y hy
    unfold shpC at hy
    split at hy
    · simp at hy; omega
    · rcases List.mem_cons.1 hy with rfl | hy
      · exact Int.le_refl _
      · exact ih _ (by omega) y hy
theorem shpN_le : ∀ (h : Nat) (L : List Pt), ∀ y ∈ shpN h L, y ≤ 4
  | 0, L => shpC_le _
  | h + 1, L => fun y hy => by
    have sub : ∀ q, y ∈ (if quarter h q L = [] then [] else shpN h (quarter h q L)) → y ≤ 4 := fun q hq => by
      split at hq
      · cases hq
      · exact shpN_le h _ y hq
    have h4 := (qsum_range h L 4 (by omega)).2
    unfold shpN at hy
    split at hy
    · simp at hy; omega
    · simp only [List.mem_cons, List.mem_append] at hy
      rcases hy with rfl | hy | hy | hy | hy
      · omega
      · exact sub 0 hy
      · exact sub 1 hy
      · exact sub 2 hy
      · exact sub 3 hy
end Cr

/- StatsTells: the law's walk. -/
set_option linter.unusedVariables false
set_option linter.unusedSimpArgs false
namespace Cr
open Go Sx Stb Bt
open Go.Proofs.Try
set_option maxRecDepth 100000
section
variable {R : Ending → Heap → Prop} {H : Heap}
theorem s_slev_nil (k : ∀ H', H ≤ H' → R (.returned (.slice none 0 0)) H') : Meets prog 25 [.pointer none] H R := by
  refine spec_of func25 (by kernel_rfl) (fun t h => by cases h) ?_ (vc_slev none R H) ?_
  · simp [argsR, SV.rep, SC.rep, one]
  unfold nf_slev
  refine spec_of func65 (by kernel_rfl) (fun t h => by cases h) ?_ (vc_sall none _ H) ?_
  · simp [argsR, SV.rep, SC.rep, one]
  unfold nf_sall
  intro r hr b hb
  have hne : b ≠ r := by rintro rfl; rw [upd_same] at hb; cases hb
  have hb0 := hb
  rw [upd_ne _ _ hne] at hb
  refine spec_of func99 (by kernel_rfl) (fun t h => by cases h) ?_ (vc_visit ⟨b, 0, none⟩ 1 0 _ _) ?_
  · simp [argsR, SV.rep, SC.rep, one]
  unfold nf_visit
  have h8 := upd_same (H.upd r (.map #[] 0)) b (.cells #[.pointer none, .map (some r), .slice none 0 0, vi 0, vi 0, vi 0, vi 0, vi 0, vi 0, vi 0] 100 (0, 0))
  have hle0 : H ≤ (H.upd r (.map #[] 0)).upd b (.cells #[.pointer none, .map (some r), .slice none 0 0, vi 0, vi 0, vi 0, vi 0, vi 0, vi 0, vi 0] 100 (0, 0)) := le_upd (le_upd (heap_refl _) hr _) hb _
  refine ptr rfl (ptr rfl (ptr rfl ⟨none, cells_at h8 (k := 0) rfl, s_get_nil fun v H1 hle hv => ?_⟩))
  obtain ⟨a, n, c, rfl, _, hk, hc⟩ := hv
  refine ⟨_, a, n, c, _, _, hk, _, hc, _, rfl, br (fun _ => ⟨rfl, ?_⟩) fun q => by cases q⟩
  refine ⟨none, some r, none, 0, 0, 0, 0, [0, 0, 0, 0, 0], rfl, ⟨b, rfl, hle _ _ h8⟩, fun b1 hb1 => ⟨_, rfl, ptr rfl (ptr rfl (ptr rfl ⟨none, 0, 0, has_one (k := 2) (has_cells (upd_same _ _ _)) rfl rfl, k _ ?_⟩))⟩⟩
  intro x ob e
  have hx : b ≠ x := by rintro rfl; rw [hb] at e; cases e
  have h2 : (H1.delO (blockOf (.pointer (some ⟨b, 0, none⟩)))) x = some ob := delO_keep (fun k e => by cases e; exact hx) (hle _ _ (hle0 _ _ e))
  rw [upd_ne _ _ (fun e' => by subst e'; rw [hb1] at h2; cases h2)]
  exact h2
theorem once_facts {l : List Pt} (hp : ∀ p ∈ l, PtR p) (most : Int) : (∀ p ∈ onceP most l, ptOK p) ∧ ((onceP most l).map Pt.id).Nodup ∧ (0 ≤ most → ((onceP most l).length : Int) ≤ most) ∧ ∀ p ∈ onceP most l, PtR p := by
  obtain ⟨h1, h2, h3, h4⟩ := once_ok most l
  refine ⟨h1, h2, fun h0 => ?_, fun p hm => hp p (h4 p hm)⟩
  rcases h3 with h | h
  · rw [h]; simpa using h0
  · exact h
theorem s_ltells {v : Value} {l : List Pt} (h : SliceAt H v 4 (pts l)) (hl : l.length ≤ 10000000000000) (hp : ∀ p ∈ l, PtR p) (k : ∀ H', H ≤ H' → R (.returned (.bool true)) H') :
    Meets prog 4 [v] H R := by
  obtain ⟨a, m, c, e, hm⟩ := h
  subst e
  have h : SliceAt H (.slice a m c) 4 (pts l) := ⟨a, m, c, rfl, hm⟩
  refine spec_of func4 (by kernel_rfl) ?_ ?_ (vc_ltells a m c R H) ?_
  · intro t ht
    obtain rfl := memN_one (a := 38) ht
    exact eqOK_of (by kernel_rfl) (by kernel_rfl) (by kernel_rfl)
  · simp [argsR, SV.rep, SC.rep, one]
  unfold nf_ltells
  refine s_alive33 fun H0 hle0 => ⟨_, rfl, br (fun q => by cases q) fun _ => ?_⟩
  obtain ⟨o1, o2, o3, o4⟩ := once_facts hp 40
  have o3 := o3 (by decide)
  refine s_once (slice_le h hle0) (by decide) hl fun v1 H1 hle1 hfr1 hrow1 => ?_
  obtain ⟨a1, c1, rfl⟩ := row_val hrow1
  generalize hL : onceP 40 l = L at *
  have hpl : (pts L).length = L.length := by simp [pts]
  rw [hpl] at hrow1 hfr1 ⊢
  have hle : H ≤ H1 := heap_trans hle0 hle1
  refine ⟨_, _, _, rfl, s_build (row_slice hrow1) (by omega) o4 (fun i p hi _ hc => absurd (o1 p (List.mem_of_getElem? hi)) (pcode_bad hc)) (fun _ hc => absurd o2 hc) (fun _ _ _ H2 hle2 => ⟨_, _, rfl, br (fun _ => k _ (heap_trans hle hle2)) fun q => by cases q⟩) fun _ _ h255 b r mm I H2 hb hr hne hle2 hg hT _ => ⟨_, _, rfl, br (fun q => by cases q) fun _ => ?_⟩⟩
  have hs2 := slice_le (row_slice hrow1) hle2
  refine s_rShape hs2 (by omega) o4 fun v3 H3 hle3 hfr3 hrow3 => ?_
  obtain ⟨a3, c3, rfl⟩ := row_val hrow3
  have hcl : (cells (shpN 32 (sortP L))).length = nds 32 (sortP L) := by rw [List.length_map, shpN_len]
  rw [hcl] at hrow3 hfr3 ⊢
  have hcnt := cnt_shp (sortP L)
  have hS4 := shpN_le 32 (sortP L)
  have hSl := shpN_len 32 (sortP L)
  generalize hS : shpN 32 (sortP L) = S at *
  refine ⟨_, _, _, rfl, ?_⟩
  simp only [true_and]
  refine ⟨fun p H' => ∃ t : Nat, (p.1.1, p.1.2.1, p.2.1.1) = (S.take t).foldl sstep (0, 0, [0, 0, 0, 0, 0]) ∧ p.1.2.2.1 = (t : Int) ∧ t ≤ S.length ∧ H' = H3, fun p _ => (S.length - p.1.2.2.1).toNat, ⟨0, rfl, rfl, by omega, rfl⟩, ?_⟩
  rintro ⟨⟨lv, ot, i, _⟩, ⟨fl, _⟩, _⟩ H4 ⟨t, h1, hi, ht, rfl⟩
  simp only at h1 hi ⊢
  subst hi
  refine br (fun q => ?_) fun q => ?_
  · simp only [decide_eq_true_eq] at q
    obtain ⟨y, _, htk, hx⟩ := drop_cons (l := S) (k := t) (by omega)
    obtain ⟨A, e, g⟩ := ir_get (row_slice hrow3) hx
    subst e
    have hy4 := hS4 y (List.mem_of_getElem? hx)
    rw [Int.toNat_natCast, w64 (k := (t : Int) + 1) (by omega)]
    have hst : (S.take (t + 1)).foldl sstep (0, 0, [0, 0, 0, 0, 0]) = sstep (lv, ot, fl) y := by rw [htk, List.foldl_append, ← h1]; rfl
    refine ⟨⟨by omega, by omega⟩, ptr rfl (ptr rfl ⟨_, g, br (fun q1 => ?_) fun q1 => ?_⟩)⟩
    · simp only [decide_eq_true_eq] at q1
      refine ⟨⟨t + 1, ?_, rfl, by omega, trivial⟩, by omega⟩
      rw [hst]; unfold sstep; rw [if_pos q1]
    · simp only [decide_eq_false_iff_not] at q1
      refine ⟨⟨by omega, by omega⟩, ptr rfl (ptr rfl ⟨_, g, ⟨by omega, by omega⟩, ⟨by omega, by omega⟩, ⟨t + 1, ?_, rfl, by omega, trivial⟩, by omega⟩)⟩
      rw [hst]; unfold sstep; rw [if_neg q1]
  · simp only [decide_eq_false_iff_not] at q
    obtain rfl : t = S.length := by omega
    rw [List.take_length, ← hcnt] at h1
    simp only [Prod.mk.injEq] at h1
    obtain ⟨rfl, rfl, rfl⟩ := h1
    refine s_sleaves (hg.le hle3) hT.dom hT.tr hT.nd fun H5 hle5 => ⟨_, _, rfl, _, none_le _, ?_⟩
    have hle6 := heap_trans hle3 hle5
    refine s_slev (hg.le hle6) hT.dom hT.tr hT.nd fun v6 H6 hle7 hs6 => ⟨keep_none _ _, ?_⟩
    obtain ⟨a6, c6, rfl⟩ := slice_val hs6
    have hle8 := heap_trans hle6 hle7
    refine ⟨_, _, _, rfl, s_rLev (slice_le hs2 hle8) (by omega) o4 fun n htr v7 H7 hle9 hfr7 hrow7 => ⟨keep_none _ _, ?_⟩⟩
    obtain ⟨a7, c7, rfl⟩ := row_val hrow7
    have hvl : (visN 32 (sortP L)).length < 1000000000 := by rw [visN_len]; omega
    rw [ls_trim (visN_lv 32 (sortP L)) hvl htr] at hrow7 hfr7 ⊢
    have hls : (cnt0.after (visN 32 (sortP L))).ls.length ≤ 33 := (ls_inv _ (visN_lv 32 (sortP L)) hvl).2.1
    refine ⟨_, _, _, rfl, s_ints (l := (cntOf (sortP L)).ls) (l' := (cntOf (sortP L)).ls) (slice_le hs6 hle9) (row_slice hrow7) (by unfold cntOf; omega) ⟨keep_none _ _, _, rfl, ?_⟩⟩
    rw [decide_eq_true rfl]
    have hle10 := heap_trans hle8 hle9
    refine br (fun _ => br (fun _ => br (fun _ => ?_) fun q => by simp at q) fun q => by simp at q) fun q => by cases q
    refine s_sfill (hg.le hle10) hT.dom hT.tr hT.nd fun H8 hle11 hfl => ⟨keep_none _ _, (cntOf (sortP L)).fl, hfl, by simp [flatD, append_eq], br (fun _ => ?_) fun q => by simp [andO] at q⟩
    refine s_slev_nil fun H9 hle12 => ⟨keep_none _ _, none, 0, 0, rfl, ?_⟩
    exact k _ (heap_trans hle (heap_trans hle2 (heap_trans hle10 (heap_trans hle11 hle12))))
end
end Cr

/- Laws of trees: TreeBuilds, TreeNone, TreeBack. -/
set_option linter.unusedVariables false
set_option linter.unusedSimpArgs false
namespace Cr
open Go Sx Stb Bt
open Go.Proofs.Try
set_option maxRecDepth 100000
def h_ltb : Hints := { cuts := [(5, ⟨[], [.f 0 .slc], []⟩)], loops := [(7, ⟨[0, 3, 4], [.f 5 (.int .i64)], []⟩)] }
def h_ltn : Hints := { loops := [(9, ⟨[0, 3, 5, 6], [.f 7 .bool, .f 8 (.int .i64)], [.keep 3]⟩)] }
def nf_alive23 (R : Ending → Heap → Prop) (H : Heap) : Prop := Meets prog (43 : Nat) [] H fun (e : Ending) (H' : Nat → Option Obj) ↦ ∃ (a : Option Addr), e = Ending.returned (Value.pointer a) ∧ Meets prog (45 : Nat) [Value.pointer a, Value.agg { toList := [Value.int IntKind.i64 (5 : Int), Value.int IntKind.u32 (1 : Int), Value.int IntKind.u32 (2 : Int), Value.string { data := #[] }] }] H' fun (e : Ending) (H' : Nat → Option Obj) ↦ ∃ (a : Option Addr), ∃ (n : Int), e = Ending.returned (Value.tuple { toList := [Value.pointer a, Value.int IntKind.i64 n] }) ∧ Br (n == (0 : Int)) (Meets prog (43 : Nat) [] H' fun (e : Ending) (H' : Nat → Option Obj) ↦ ∃ (a_1 : Option Addr), e = Ending.returned (Value.pointer a_1) ∧ Meets prog (41 : Nat) [Value.pointer a_1] H' fun (e : Ending) (H' : Nat → Option Obj) ↦ ∃ (a_2 : Option Addr), ∃ (n : Nat), ∃ (c : Nat), e = Ending.returned (Value.slice a_2 n c) ∧ ∀ (v : Value) (H'_1 : Nat → Option Obj), H' ≤ H'_1 → (∀ (b : Nat), blockOf v = some b → H' b = none) → (∀ (b : Nat) (o : Obj), H'_1 b = some o → H' b = some o ∨ blockOf v = some b) → RowAt H'_1 v (3 : Nat) (1 : Nat) [[Value.int IntKind.i64 (0 : Int)]] → Meets prog (19 : Nat) [Value.slice a_2 n c, v] H'_1 fun (e : Ending) (H' : Nat → Option Obj) ↦ ∃ (b : Bool), e = Ending.returned (Value.bool b) ∧ ∃ (es : List (List Value)), RowAt H' v (3 : Nat) (1 : Nat) es ∧ Br b (Meets prog (41 : Nat) [Value.pointer a] (Heap.delO H' (blockOf v)) fun (e : Ending) (H' : Nat → Option Obj) ↦ ∃ (a : Option Addr), ∃ (n : Nat), ∃ (c : Nat), e = Ending.returned (Value.slice a n c) ∧ ∀ (v : Value) (H'_2 : Nat → Option Obj), H' ≤ H'_2 → (∀ (b : Nat), blockOf v = some b → H' b = none) → (∀ (b : Nat) (o : Obj), H'_2 b = some o → H' b = some o ∨ blockOf v = some b) → RowAt H'_2 v (3 : Nat) (1 : Nat) [[Value.int IntKind.i64 (1 : Int)]] → Meets prog (19 : Nat) [Value.slice a n c, v] H'_2 fun (e : Ending) (H' : Nat → Option Obj) ↦ ∃ (b : Bool), e = Ending.returned (Value.bool b) ∧ ∃ (es : List (List Value)), RowAt H' v (3 : Nat) (1 : Nat) es ∧ R (Ending.returned (Value.bool b)) (Heap.delO H' (blockOf v))) (R (Ending.returned (Value.bool false)) (Heap.delO H' (blockOf v)))) (R (Ending.returned (Value.bool false)) H')
theorem vc_alive23 (R : Ending → Heap → Prop) (H : Heap) : vcFun prog { } f39 [] R H = nf_alive23 R H := by kernel_rfl

def nf_ltb (a : Option Addr) (n : Nat) (c : Nat) (R : Ending → Heap → Prop) (H : Heap) : Prop := Meets prog (39 : Nat) [] H fun (e : Ending) (H' : Nat → Option Obj) ↦ ∃ (b : Bool), e = Ending.returned (Value.bool b) ∧ Br (!b) (R (Ending.returned (Value.bool false)) H') (CutP (fun (I : ((Option Addr × Nat × Nat) × PUnit) × PUnit → (Nat → Option Obj) → Prop) ↦ Br (decide ((↑n : Int) > (40 : Int))) (((0 : Int) ≤ (40 : Int) ∧ (40 : Int) ≤ (↑c : Int)) ∧ I (((subAddr a c (0 : Nat) (4 : Nat), (40 : Nat), c - (0 : Nat)), PUnit.unit), PUnit.unit) H') (I (((a, n, c), PUnit.unit), PUnit.unit) H')) fun (p : ((Option Addr × Nat × Nat) × PUnit) × PUnit) (H : Nat → Option Obj) ↦ Meets prog (22 : Nat) [Value.slice p.fst.fst.1 p.fst.fst.snd.fst p.fst.fst.snd.snd] H fun (e : Ending) (H' : Nat → Option Obj) ↦ ∃ (a : Option Addr), ∃ (n : Int), e = Ending.returned (Value.tuple { toList := [Value.pointer a, Value.int IntKind.i64 n] }) ∧ p.fst.fst.1 = p.fst.fst.1 ∧ p.fst.fst.snd.fst = p.fst.fst.snd.fst ∧ p.fst.fst.snd.snd = p.fst.fst.snd.snd ∧ a = a ∧ n = n ∧ LoopP (fun (K : (Int × PUnit) × PUnit → (Nat → Option Obj) → Prop) (p_1 : (Int × PUnit) × PUnit) (H : Nat → Option Obj) ↦ Br (decide (p_1.fst.fst < (↑p.fst.fst.snd.fst : Int))) (((0 : Int) ≤ p_1.fst.fst ∧ p_1.fst.fst < (↑p.fst.fst.snd.fst : Int)) ∧ PtrK p.fst.fst.1 fun (A : Addr) ↦ PtrK (some (Addr.add A (Int.toNat p_1.fst.fst * (4 : Nat)))) fun (a_1 : Addr) ↦ PtrK (some (Addr.add a_1 (0 : Nat))) fun (a_2 : Addr) ↦ ∃ (n_1 : Int), Heap.has H a_2 [Value.int IntKind.i64 n_1] ∧ Br (decide (n_1 < (1 : Int))) (Br (n == (4 : Int)) (R (Ending.returned (Value.bool (Option.isNone a))) H) (R (Ending.returned (Value.bool false)) H)) (((0 : Int) ≤ p_1.fst.fst ∧ p_1.fst.fst < (↑p.fst.fst.snd.fst : Int)) ∧ PtrK p.fst.fst.1 fun (A : Addr) ↦ PtrK (some (Addr.add A (Int.toNat p_1.fst.fst * (4 : Nat)))) fun (a_3 : Addr) ↦ PtrK (some (Addr.add a_3 (0 : Nat))) fun (a_4 : Addr) ↦ ∃ (n_2 : Int), Heap.has H a_4 [Value.int IntKind.i64 n_2] ∧ Br (decide (n_2 ≥ (2147483648 : Int))) (Br (n == (4 : Int)) (R (Ending.returned (Value.bool (Option.isNone a))) H) (R (Ending.returned (Value.bool false)) H)) (((0 : Int) ≤ p_1.fst.fst ∧ p_1.fst.fst < (↑p.fst.fst.snd.fst : Int)) ∧ PtrK p.fst.fst.1 fun (A : Addr) ↦ PtrK (some (Addr.add A (Int.toNat p_1.fst.fst * (4 : Nat)))) fun (a_5 : Addr) ↦ PtrK (some (Addr.add a_5 (3 : Nat))) fun (a_6 : Addr) ↦ ∃ (s : ByteArray), Heap.has H a_6 [Value.string s] ∧ Br (decide ((↑(ByteArray.size s) : Int) > (16 : Int))) (Br (n == (5 : Int)) (R (Ending.returned (Value.bool (Option.isNone a))) H) (R (Ending.returned (Value.bool false)) H)) (p.fst.fst.1 = p.fst.fst.1 ∧ p.fst.fst.snd.fst = p.fst.fst.snd.fst ∧ p.fst.fst.snd.snd = p.fst.fst.snd.snd ∧ a = a ∧ n = n ∧ K ((IntKind.wrap IntKind.i64 (p_1.fst.fst + (1 : Int)), PUnit.unit), PUnit.unit) H)))) (Meets prog (21 : Nat) [Value.slice p.fst.fst.1 p.fst.fst.snd.fst p.fst.fst.snd.snd, Value.int IntKind.i64 (40 : Int)] H fun (e : Ending) (H' : Nat → Option Obj) ↦ ∃ (a_1 : Option Addr), ∃ (n_1 : Nat), ∃ (c : Nat), e = Ending.returned (Value.slice a_1 n_1 c) ∧ Br ((↑n_1 : Int) != (↑p.fst.fst.snd.fst : Int)) (Br (n == (22 : Int)) (R (Ending.returned (Value.bool (Option.isNone a))) H') (R (Ending.returned (Value.bool false)) H')) (Meets prog (40 : Nat) [Value.slice p.fst.fst.1 p.fst.fst.snd.fst p.fst.fst.snd.snd] H' fun (e : Ending) (H' : Nat → Option Obj) ↦ ∃ (n_2 : Int), e = Ending.returned (Value.int IntKind.i64 n_2) ∧ Br (decide (n_2 > (255 : Int))) (Br (n == (10 : Int)) (R (Ending.returned (Value.bool (Option.isNone a))) H') (R (Ending.returned (Value.bool false)) H')) (Br (n == (0 : Int)) (Meets prog (41 : Nat) [Value.pointer a] H' fun (e : Ending) (H' : Nat → Option Obj) ↦ ∃ (a_2 : Option Addr), ∃ (n : Nat), ∃ (c : Nat), e = Ending.returned (Value.slice a_2 n c) ∧ Meets prog (23 : Nat) [Value.slice p.fst.fst.1 p.fst.fst.snd.fst p.fst.fst.snd.snd] H' fun (e : Ending) (H' : Nat → Option Obj) ↦ ∃ (a_3 : Option Addr), ∃ (n_3 : Nat), ∃ (c_1 : Nat), e = Ending.returned (Value.slice a_3 n_3 c_1) ∧ Meets prog (19 : Nat) [Value.slice a_2 n c, Value.slice a_3 n_3 c_1] H' fun (e : Ending) (H' : Nat → Option Obj) ↦ ∃ (b : Bool), e = Ending.returned (Value.bool b) ∧ Br b (Meets prog (42 : Nat) [Value.pointer a] H' fun (e : Ending) (H' : Nat → Option Obj) ↦ ∃ (a_4 : Option Addr), ∃ (n : Nat), ∃ (c : Nat), e = Ending.returned (Value.slice a_4 n c) ∧ Meets prog (30 : Nat) [Value.slice p.fst.fst.1 p.fst.fst.snd.fst p.fst.fst.snd.snd] H' fun (e : Ending) (H' : Nat → Option Obj) ↦ ∃ (a_5 : Option Addr), ∃ (n_4 : Nat), ∃ (c_2 : Nat), e = Ending.returned (Value.slice a_5 n_4 c_2) ∧ Meets prog (32 : Nat) [Value.slice a_4 n c, Value.slice a_5 n_4 c_2] H' fun (e : Ending) (H' : Nat → Option Obj) ↦ ∃ (b : Bool), e = Ending.returned (Value.bool b) ∧ Br b (Meets prog (28 : Nat) [Value.pointer a] H' fun (e : Ending) (H' : Nat → Option Obj) ↦ ∃ (a : Option Addr), ∃ (n : Nat), ∃ (c : Nat), e = Ending.returned (Value.slice a n c) ∧ Meets prog (40 : Nat) [Value.slice p.fst.fst.1 p.fst.fst.snd.fst p.fst.fst.snd.snd] H' fun (e : Ending) (H' : Nat → Option Obj) ↦ ∃ (n_5 : Int), e = Ending.returned (Value.int IntKind.i64 n_5) ∧ R (Ending.returned (Value.bool ((↑n : Int) == n_5))) H') (R (Ending.returned (Value.bool false)) H')) (R (Ending.returned (Value.bool false)) H')) (R (Ending.returned (Value.bool false)) H'))))) (((0 : Int), PUnit.unit), PUnit.unit) H')
theorem vc_ltb (a : Option Addr) (n : Nat) (c : Nat) (R : Ending → Heap → Prop) (H : Heap) : vcFun prog h_ltb f10 [SV.c (SC.v (Value.slice a n c))] R H = nf_ltb a n c R H := by kernel_rfl

def nf_ltn (a : Option Addr) (n : Nat) (c : Nat) (i : Int) (x : Int) (y : Int) (d : ByteArray) (R : Ending → Heap → Prop) (H : Heap) : Prop := Meets prog (39 : Nat) [] H fun (e : Ending) (H' : Nat → Option Obj) ↦ ∃ (b : Bool), e = Ending.returned (Value.bool b) ∧ Br (!b) (R (Ending.returned (Value.bool false)) H') (Meets prog (21 : Nat) [Value.slice a n c, Value.int IntKind.i64 (30 : Int)] H' fun (e : Ending) (H' : Nat → Option Obj) ↦ ∃ (a : Option Addr), ∃ (n : Nat), ∃ (c : Nat), e = Ending.returned (Value.slice a n c) ∧ Meets prog (22 : Nat) [Value.slice a n c] H' fun (e : Ending) (H' : Nat → Option Obj) ↦ ∃ (a_1 : Option Addr), ∃ (n_1 : Int), e = Ending.returned (Value.tuple { toList := [Value.pointer a_1, Value.int IntKind.i64 n_1] }) ∧ Br (n_1 != (0 : Int)) (R (Ending.returned (Value.bool true)) H') (a = a ∧ n = n ∧ c = c ∧ (0 : Nat) = (0 : Nat) ∧ a_1 = a_1 ∧ n_1 = n_1 ∧ i = i ∧ x = x ∧ y = y ∧ Value.string d = Value.string d ∧ LoopP (fun (K : (Bool × Int × PUnit) × PUnit × PUnit → (Nat → Option Obj) → Prop) (p : (Bool × Int × PUnit) × PUnit × PUnit) (H : Nat → Option Obj) ↦ Br (decide (p.fst.snd.fst < (↑n : Int))) (Br p.fst.fst (a = a ∧ n = n ∧ c = c ∧ (0 : Nat) = (0 : Nat) ∧ a_1 = a_1 ∧ n_1 = n_1 ∧ i = i ∧ x = x ∧ y = y ∧ Value.string d = Value.string d ∧ K ((true, IntKind.wrap IntKind.i64 (p.fst.snd.fst + (1 : Int)), PUnit.unit), PUnit.unit, PUnit.unit) H) (((0 : Int) ≤ p.fst.snd.fst ∧ p.fst.snd.fst < (↑n : Int)) ∧ PtrK a fun (A : Addr) ↦ PtrK (some (Addr.add A (Int.toNat p.fst.snd.fst * (4 : Nat)))) fun (a_2 : Addr) ↦ PtrK (some (Addr.add a_2 (0 : Nat))) fun (a_3 : Addr) ↦ ∃ (n_2 : Int), Heap.has H a_3 [Value.int IntKind.i64 n_2] ∧ Br (n_2 == i) (((0 : Int) ≤ p.fst.snd.fst ∧ p.fst.snd.fst < (↑n : Int)) ∧ PtrK a fun (A : Addr) ↦ PtrK (some (Addr.add A (Int.toNat p.fst.snd.fst * (4 : Nat)))) fun (a_4 : Addr) ↦ PtrK (some (Addr.add a_4 (1 : Nat))) fun (a_5 : Addr) ↦ ∃ (n_3 : Int), Heap.has H a_5 [Value.int IntKind.u32 n_3] ∧ Br (n_3 == x) (((0 : Int) ≤ p.fst.snd.fst ∧ p.fst.snd.fst < (↑n : Int)) ∧ PtrK a fun (A : Addr) ↦ PtrK (some (Addr.add A (Int.toNat p.fst.snd.fst * (4 : Nat)))) fun (a_6 : Addr) ↦ PtrK (some (Addr.add a_6 (2 : Nat))) fun (a_7 : Addr) ↦ ∃ (n_4 : Int), Heap.has H a_7 [Value.int IntKind.u32 n_4] ∧ a = a ∧ n = n ∧ c = c ∧ (0 : Nat) = (0 : Nat) ∧ a_1 = a_1 ∧ n_1 = n_1 ∧ i = i ∧ x = x ∧ y = y ∧ Value.string d = Value.string d ∧ K ((n_4 == y, IntKind.wrap IntKind.i64 (p.fst.snd.fst + (1 : Int)), PUnit.unit), PUnit.unit, PUnit.unit) H) (a = a ∧ n = n ∧ c = c ∧ (0 : Nat) = (0 : Nat) ∧ a_1 = a_1 ∧ n_1 = n_1 ∧ i = i ∧ x = x ∧ y = y ∧ Value.string d = Value.string d ∧ K ((false, IntKind.wrap IntKind.i64 (p.fst.snd.fst + (1 : Int)), PUnit.unit), PUnit.unit, PUnit.unit) H)) (a = a ∧ n = n ∧ c = c ∧ (0 : Nat) = (0 : Nat) ∧ a_1 = a_1 ∧ n_1 = n_1 ∧ i = i ∧ x = x ∧ y = y ∧ Value.string d = Value.string d ∧ K ((false, IntKind.wrap IntKind.i64 (p.fst.snd.fst + (1 : Int)), PUnit.unit), PUnit.unit, PUnit.unit) H))) (Meets prog (44 : Nat) [Value.pointer a_1, Value.agg { toList := [Value.int IntKind.i64 i, Value.int IntKind.u32 x, Value.int IntKind.u32 y, Value.string d] }] H fun (e : Ending) (H' : Nat → Option Obj) ↦ ∃ (a : Option Addr), ∃ (n : Int), e = Ending.returned (Value.tuple { toList := [Value.pointer a, Value.int IntKind.i64 n] }) ∧ Br ((n == (0 : Int)) == p.fst.fst) (Br p.fst.fst (Meets prog (42 : Nat) [Value.pointer none] H' fun (e : Ending) (H' : Nat → Option Obj) ↦ ∃ (a : Option Addr), ∃ (n : Nat), ∃ (c : Nat), e = Ending.returned (Value.slice a n c) ∧ Meets prog (41 : Nat) [Value.pointer none] H' fun (e : Ending) (H' : Nat → Option Obj) ↦ ∃ (a : Option Addr), ∃ (n_2 : Nat), ∃ (c : Nat), e = Ending.returned (Value.slice a n_2 c) ∧ R (Ending.returned (Value.bool (IntKind.wrap IntKind.i64 ((↑n : Int) + (↑n_2 : Int)) == (0 : Int)))) H') (Br (n == (14 : Int)) (Br (Option.isNone a) (Meets prog (42 : Nat) [Value.pointer none] H' fun (e : Ending) (H' : Nat → Option Obj) ↦ ∃ (a : Option Addr), ∃ (n : Nat), ∃ (c : Nat), e = Ending.returned (Value.slice a n c) ∧ Meets prog (41 : Nat) [Value.pointer none] H' fun (e : Ending) (H' : Nat → Option Obj) ↦ ∃ (a : Option Addr), ∃ (n_2 : Nat), ∃ (c : Nat), e = Ending.returned (Value.slice a n_2 c) ∧ R (Ending.returned (Value.bool (IntKind.wrap IntKind.i64 ((↑n : Int) + (↑n_2 : Int)) == (0 : Int)))) H') (R (Ending.returned (Value.bool false)) H')) (R (Ending.returned (Value.bool false)) H'))) (R (Ending.returned (Value.bool false)) H'))) ((false, (0 : Int), PUnit.unit), PUnit.unit, PUnit.unit) H'))
theorem vc_ltn (a : Option Addr) (n : Nat) (c : Nat) (i : Int) (x : Int) (y : Int) (d : ByteArray) (R : Ending → Heap → Prop) (H : Heap) : vcFun prog h_ltn f13 [SV.c (SC.v (Value.slice a n c)), ptA i x y d] R H = nf_ltn a n c i x y d R H := by kernel_rfl

def nf_ltk (a : Option Addr) (n : Nat) (c : Nat) (i : Int) (x : Int) (y : Int) (d : ByteArray) (R : Ending → Heap → Prop) (H : Heap) : Prop := Meets prog (39 : Nat) [] H fun (e : Ending) (H' : Nat → Option Obj) ↦ ∃ (b : Bool), e = Ending.returned (Value.bool b) ∧ Br (!b) (R (Ending.returned (Value.bool false)) H') (Meets prog (21 : Nat) [Value.slice a n c, Value.int IntKind.i64 (30 : Int)] H' fun (e : Ending) (H' : Nat → Option Obj) ↦ ∃ (a : Option Addr), ∃ (n : Nat), ∃ (c : Nat), e = Ending.returned (Value.slice a n c) ∧ Meets prog (22 : Nat) [Value.slice a n c] H' fun (e : Ending) (H' : Nat → Option Obj) ↦ ∃ (a : Option Addr), ∃ (n : Int), e = Ending.returned (Value.tuple { toList := [Value.pointer a, Value.int IntKind.i64 n] }) ∧ Br (n != (0 : Int)) (R (Ending.returned (Value.bool true)) H') (Meets prog (45 : Nat) [Value.pointer a, Value.agg { toList := [Value.int IntKind.i64 i, Value.int IntKind.u32 x, Value.int IntKind.u32 y, Value.string d] }] H' fun (e : Ending) (H' : Nat → Option Obj) ↦ ∃ (a_1 : Option Addr), ∃ (n : Int), e = Ending.returned (Value.tuple { toList := [Value.pointer a_1, Value.int IntKind.i64 n] }) ∧ Br (n != (0 : Int)) (R (Ending.returned (Value.bool (Option.isNone a_1))) H') (Meets prog (44 : Nat) [Value.pointer a_1, Value.agg { toList := [Value.int IntKind.i64 i, Value.int IntKind.u32 x, Value.int IntKind.u32 y, Value.string d] }] H' fun (e : Ending) (H' : Nat → Option Obj) ↦ ∃ (a_2 : Option Addr), ∃ (n : Int), e = Ending.returned (Value.tuple { toList := [Value.pointer a_2, Value.int IntKind.i64 n] }) ∧ Br (n == (0 : Int)) (Meets prog (41 : Nat) [Value.pointer a_2] H' fun (e : Ending) (H' : Nat → Option Obj) ↦ ∃ (a_3 : Option Addr), ∃ (n : Nat), ∃ (c : Nat), e = Ending.returned (Value.slice a_3 n c) ∧ Meets prog (41 : Nat) [Value.pointer a] H' fun (e : Ending) (H' : Nat → Option Obj) ↦ ∃ (a_4 : Option Addr), ∃ (n_1 : Nat), ∃ (c_1 : Nat), e = Ending.returned (Value.slice a_4 n_1 c_1) ∧ Meets prog (19 : Nat) [Value.slice a_3 n c, Value.slice a_4 n_1 c_1] H' fun (e : Ending) (H' : Nat → Option Obj) ↦ ∃ (b : Bool), e = Ending.returned (Value.bool b) ∧ Br b (Meets prog (28 : Nat) [Value.pointer a_2] H' fun (e : Ending) (H' : Nat → Option Obj) ↦ ∃ (a_5 : Option Addr), ∃ (n : Nat), ∃ (c : Nat), e = Ending.returned (Value.slice a_5 n c) ∧ Meets prog (28 : Nat) [Value.pointer a] H' fun (e : Ending) (H' : Nat → Option Obj) ↦ ∃ (a_6 : Option Addr), ∃ (n_2 : Nat), ∃ (c : Nat), e = Ending.returned (Value.slice a_6 n_2 c) ∧ Br ((↑n : Int) == (↑n_2 : Int)) (Meets prog (42 : Nat) [Value.pointer a_2] H' fun (e : Ending) (H' : Nat → Option Obj) ↦ ∃ (a_7 : Option Addr), ∃ (n : Nat), ∃ (c : Nat), e = Ending.returned (Value.slice a_7 n c) ∧ Meets prog (42 : Nat) [Value.pointer a] H' fun (e : Ending) (H' : Nat → Option Obj) ↦ ∃ (a : Option Addr), ∃ (n_3 : Nat), ∃ (c_2 : Nat), e = Ending.returned (Value.slice a n_3 c_2) ∧ Meets prog (32 : Nat) [Value.slice a_7 n c, Value.slice a n_3 c_2] H' fun (e : Ending) (H' : Nat → Option Obj) ↦ ∃ (b : Bool), e = Ending.returned (Value.bool b) ∧ R (Ending.returned (Value.bool b)) H') (R (Ending.returned (Value.bool false)) H')) (R (Ending.returned (Value.bool false)) H')) (R (Ending.returned (Value.bool false)) H'))))
theorem vc_ltk (a : Option Addr) (n : Nat) (c : Nat) (i : Int) (x : Int) (y : Int) (d : ByteArray) (R : Ending → Heap → Prop) (H : Heap) : vcFun prog { } f14 [SV.c (SC.v (Value.slice a n c)), ptA i x y d] R H = nf_ltk a n c i x y d R H := by kernel_rfl

def BuildRes (l : List Pt) (a : Option Addr) (n : Int) (H : Heap) : Prop :=
  (∃ (i : Nat) (p : Pt), l[i]? = some p ∧ (∀ (j : Nat) (q : Pt), j < i → l[j]? = some q → ptOK q) ∧ pcode p ≠ 0 ∧ a = none ∧ n = pcode p) ∨
  (∀ p ∈ l, ptOK p) ∧ ((¬ (l.map Pt.id).Nodup ∧ a = none ∧ n = 22) ∨ (l.map Pt.id).Nodup ∧ ((255 < nds 32 (sortP l) ∧ a = none ∧ n = 10) ∨
    nds 32 (sortP l) ≤ 255 ∧ n = 0 ∧ ∃ b r m I, a = some ⟨b, 0, none⟩ ∧ GroveAt H ⟨b, 0, none⟩ r m ∧ TreeOK m (sortP l) I ∧ Low m))
theorem BuildRes.le {l : List Pt} {a : Option Addr} {n : Int} {H H' : Heap} (h : BuildRes l a n H) (hle : H ≤ H') : BuildRes l a n H' := by
  rcases h with h | ⟨h1, h | ⟨h2, h | ⟨h3, h4, b, r, m, I, h5, h6, h7⟩⟩⟩
  · exact .inl h
  · exact .inr ⟨h1, .inl h⟩
  · exact .inr ⟨h1, .inr ⟨h2, .inl h⟩⟩
  · exact .inr ⟨h1, .inr ⟨h2, .inr ⟨h3, h4, b, r, m, I, h5, h6.le hle, h7⟩⟩⟩
theorem onceP_full {most : Int} : ∀ l : List Pt, (onceP most l).length = l.length → onceP most l = l := by
  refine snocInd (fun _ => rfl) fun l p ih h => ?_
  have h1 := onceP_len most l
  rw [onceP_snoc] at h ⊢
  unfold onceStep at h ⊢
  split
  · rename_i hc
    rw [if_pos hc] at h
    simp only [List.length_append, List.length_singleton] at h
    rw [ih (by omega)]
  · rename_i hc
    rw [if_neg hc] at h
    simp only [List.length_append, List.length_singleton] at h
    omega
theorem onceP_id {most : Int} : ∀ l : List Pt, (∀ p ∈ l, ptOK p) → (l.map Pt.id).Nodup → (l.length : Int) ≤ most → onceP most l = l := by
  refine snocInd (fun _ _ _ => rfl) fun l p ih h1 h2 h3 => ?_
  rw [List.map_append, List.nodup_append] at h2
  simp only [List.length_append, List.length_singleton] at h3
  rw [onceP_snoc, ih (fun q hq => h1 q (List.mem_append_left _ hq)) h2.1 (by omega)]
  unfold onceStep
  rw [if_pos ⟨by omega, h1 p (List.mem_append_right _ (List.mem_singleton.2 rfl)), fun hm => h2.2.2 _ hm p.id (by simp) rfl⟩]
theorem cutP_insP {L : List Pt} {p : Pt} (hr : L.Pairwise fun p q => p.id < q.id) (hp : p.id ∉ L.map Pt.id) : cutP (insP L p) p = L := by
  unfold cutP insP
  rw [sortP_filter (insP_ids hr hp), List.filter_append]
  have e1 : L.filter (fun x => !mt p x) = L := cutP_off fun x hx => by
    have : x.id ≠ p.id := fun e => hp (e ▸ List.mem_map_of_mem hx)
    simp [mt, this]
  have e2 : [p].filter (fun x => !mt p x) = [] := by simp [mt]
  rw [e1, e2, List.append_nil]
  exact sortP_id hr
section
variable {R : Ending → Heap → Prop} {H : Heap}
theorem s_buildR {v : Value} {l : List Pt} (hs : SliceAt H v 4 (pts l)) (hl : l.length ≤ 50000) (hp : ∀ p ∈ l, PtR p) (k : ∀ a n H', H ≤ H' → BuildRes l a n H' → R (.returned (.tuple #[.pointer a, vi n])) H') : Meets prog 22 [v] H R :=
  s_build hs hl hp (fun i p h1 h2 h3 => k _ _ _ (heap_refl _) (.inl ⟨i, p, h1, h2, h3, rfl, rfl⟩)) (fun h1 h2 H' hle => k _ _ _ hle (.inr ⟨h1, .inl ⟨h2, rfl, rfl⟩⟩)) (fun h1 h2 h3 H' hle => k _ _ _ hle (.inr ⟨h1, .inr ⟨h2, .inl ⟨h3, rfl, rfl⟩⟩⟩))
    fun h1 h2 h3 b r m I H' _ _ _ hle hg hT hlow => k _ _ _ hle (.inr ⟨h1, .inr ⟨h2, .inr ⟨h3, rfl, b, r, m, I, rfl, hg, hT, hlow⟩⟩⟩)
theorem s_treepts {g : Addr} {r : Nat} {m : M} {L : List Pt} {I : List Int} (hg : GroveAt H g r m) (hT : TreeOK m L I) (k : ∀ v H', H ≤ H' → (∀ b, blockOf v = some b → H b = none) → RowAt H' v tPt 4 (pts L) → R (.returned v) H') :
    Meets prog 42 [.pointer (some g)] H R := by
  refine s_tpts hg hT.dom fun v H' h1 h2 h3 => k v H' h1 h2 ?_
  rwa [sortP_perm hT.lok.rise hT.pts] at h3
theorem s_treeids {g : Addr} {r : Nat} {m : M} {L : List Pt} {I : List Int} (hg : GroveAt H g r m) (hT : TreeOK m L I) (k : ∀ v H', H ≤ H' → (∀ b, blockOf v = some b → H b = none) → (idsOf m).length = nds 32 L → RowAt H' v 3 1 (cells (idsOf m)) → R (.returned v) H') :
    Meets prog 28 [.pointer (some g)] H R :=
  s_ids hg fun v H' h1 h2 h3 => k v H' h1 h2 (by rw [hT.ids.length_eq, TrP_len hT.tr]) h3
theorem s_tpts_nil (k : ∀ v c H', H ≤ H' → R (.returned (.slice v 0 c)) H') : Meets prog 42 [.pointer none] H R := by
  refine spec_of func42 (by kernel_rfl) (fun t h => by cases h) ?_ (vc_tpts none R H) ?_
  · simp [argsR, SV.rep, SC.rep, one]
  unfold nf_tpts
  refine spec_of func28 (by kernel_rfl) (fun t h => by cases h) ?_ (vc_ids none _ H) ?_
  · simp [argsR, SV.rep, SC.rep, one]
  unfold nf_ids
  refine s_is_nil ⟨_, rfl, br (fun _ => ?_) fun q => by cases q⟩
  refine ⟨none, 0, 0, rfl, ?_⟩
  simp only [true_and]
  refine ⟨fun p H' => p.1.1 = [] ∧ p.1.2.1 = 0 ∧ H' = H, fun p _ => 0, ⟨rfl, rfl, rfl⟩, ?_⟩
  rintro ⟨⟨e1, i, _⟩, _⟩ H1 ⟨h1, hi, rfl⟩
  simp only at h1 hi ⊢
  subst h1; subst hi
  refine br (fun q => by simp at q) fun _ => fun v H' g1 g2 g3 g4 => ?_
  refine s_srt (l := []) (row_slice g4) (by simp) fun v2 H2 hle2 hfr2 hrow2 => ?_
  obtain ⟨a2, c2, rfl⟩ := row_val hrow2
  exact ⟨_, _, _, rfl, _, row_le g4 fun b o _ e => hle2 _ _ e, k _ _ _ (le_delO (heap_trans g1 hle2) g2)⟩
def pA : Pt := ⟨5, 1, 2, { data := #[] }⟩
theorem insA : insP [] pA = [pA] := rfl
theorem ok_pA : ptOK pA ∧ PtR pA := ⟨by decide, by unfold PtR; decide⟩
theorem shp_small {L : List Pt} (h : L.length ≤ 4) : shpN 32 L = [(L.length : Int)] := by unfold shpN; rw [if_pos h]
theorem s_alive23 (k : ∀ H', H ≤ H' → R (.returned (.bool true)) H') : Meets prog 39 [] H R := by
  refine spec_of func39 (by kernel_rfl) (fun t h => by cases h) ?_ (vc_alive23 R H) ?_
  · simp [argsR]
  unfold nf_alive23
  refine s_empty fun r b _ _ _ H1 hle1 hg1 => ⟨_, rfl, ?_⟩
  refine s_tins (p := pA) (m := mE) hg1 tree_mE ok_pA.2 (fun hc => absurd (pcode_ok.2 ok_pA.1) hc) (fun _ hm => by cases hm) (fun _ _ hn => ?_) fun _ _ _ b2 r2 m2 I2 H2 _ _ _ hle2 hg2 hT2 _ _ => ⟨_, _, rfl, br (fun _ => ?_) fun q => by cases q⟩
  · rw [insA, nds_small (by simp)] at hn; omega
  refine s_empty fun r3 b3 _ _ _ H3 hle3 hg3 => ⟨_, rfl, s_tshape (m := mE) hg3 tree_mE fun v4 H4 hle4 hfr4 hrow4 => ?_⟩
  obtain ⟨a4, c4, rfl⟩ := row_val hrow4
  refine ⟨_, _, _, rfl, fun v5 H5 g1 g2 g3 g4 => ?_⟩
  rw [shp_small (by simp)] at hrow4
  refine s_ints (l := [0]) (l' := [0]) (slice_le (row_slice hrow4) g1) (row_slice g4) (by simp) ⟨true, by simp, _, g4, br (fun _ => ?_) fun q => by cases q⟩
  have hleA := heap_trans hle1 (heap_trans hle2 (heap_trans hle3 (heap_trans hle4 g1)))
  have hleB : H ≤ Heap.delO H5 (blockOf v5) := le_delO hleA (fresh_le (heap_trans hle1 (heap_trans hle2 (heap_trans hle3 hle4))) g2)
  have hleC : H2 ≤ Heap.delO H5 (blockOf v5) := le_delO (heap_trans hle3 (heap_trans hle4 g1)) (fresh_le (heap_trans hle3 hle4) g2)
  refine s_tshape (hg2.le hleC) hT2 fun v6 H6 hle6 hfr6 hrow6 => ?_
  obtain ⟨a6, c6, rfl⟩ := row_val hrow6
  refine ⟨_, _, _, rfl, fun v7 H7 f1 f2 f3 f4 => ?_⟩
  rw [insA, shp_small (by simp)] at hrow6
  refine s_ints (l := [1]) (l' := [1]) (slice_le (row_slice hrow6) f1) (row_slice f4) (by simp) ⟨true, by simp, _, f4, ?_⟩
  exact k _ (le_delO (heap_trans hleB (heap_trans hle6 f1)) (fresh_le (heap_trans hleB hle6) f2))
end
end Cr

/- What changed between groves. -/
set_option linter.unusedVariables false
set_option linter.unusedSimpArgs false
namespace Cr
open Go Sx Stb Bt
open Go.Proofs.Try
set_option maxRecDepth 100000
def h_seq : Hints := { eqs := [28], loops := [(4, ⟨[0, 1, 12], [.f 13 (.int .i64)], []⟩)] }
def h_nsame : Hints := { eqs := [72] }
def h_chgd : Hints := { loops := [(3, ⟨[0, 1], [.row 5 69 2, .f 6 (.int .i64)], []⟩)] }
def h_lkeep : Hints := { loops := [(10, ⟨[5, 7, 9], [.f 10 (.int .i64)], []⟩)] }
def nf_seq (a : Option Addr) (n : Nat) (c : Nat) (a' : Option Addr) (n' : Nat) (c' : Nat) (R : Ending → Heap → Prop) (H : Heap) : Prop := Br ((↑n : Int) != (↑n' : Int)) (R (Ending.returned (Value.bool false)) H) (a = a ∧ n = n ∧ c = c ∧ a' = a' ∧ n' = n' ∧ c' = c' ∧ (↑n : Int) = (↑n : Int) ∧ LoopP (fun (K : (Int × PUnit) × PUnit → (Nat → Option Obj) → Prop) (p : (Int × PUnit) × PUnit) (H : Nat → Option Obj) ↦ Br (decide (p.fst.fst < (↑n : Int))) (((0 : Int) ≤ p.fst.fst ∧ p.fst.fst < (↑n : Int)) ∧ PtrK a fun (A : Addr) ↦ PtrK (some (Addr.add A (Int.toNat p.fst.fst * (4 : Nat)))) fun (a_1 : Addr) ↦ ∃ (n_1 : Int), ∃ (n_2 : Int), ∃ (n_3 : Int), ∃ (s : ByteArray), Heap.has H a_1 [Value.int IntKind.i64 n_1, Value.int IntKind.u32 n_2, Value.int IntKind.u32 n_3, Value.string s] ∧ ((0 : Int) ≤ p.fst.fst ∧ p.fst.fst < (↑n' : Int)) ∧ PtrK a' fun (A : Addr) ↦ PtrK (some (Addr.add A (Int.toNat p.fst.fst * (4 : Nat)))) fun (a_2 : Addr) ↦ ∃ (n_4 : Int), ∃ (n_5 : Int), ∃ (n_6 : Int), ∃ (s_1 : ByteArray), Heap.has H a_2 [Value.int IntKind.i64 n_4, Value.int IntKind.u32 n_5, Value.int IntKind.u32 n_6, Value.string s_1] ∧ Br (!andO (some (andO (some (andO (some (andO none (n_1 == n_4))) (n_2 == n_5))) (n_3 == n_6))) (s == s_1)) (R (Ending.returned (Value.bool false)) H) (a = a ∧ n = n ∧ c = c ∧ a' = a' ∧ n' = n' ∧ c' = c' ∧ (↑n : Int) = (↑n : Int) ∧ K ((IntKind.wrap IntKind.i64 (p.fst.fst + (1 : Int)), PUnit.unit), PUnit.unit) H)) (R (Ending.returned (Value.bool true)) H)) (((0 : Int), PUnit.unit), PUnit.unit) H)
theorem vc_seq (a : Option Addr) (n : Nat) (c : Nat) (a' : Option Addr) (n' : Nat) (c' : Nat) (R : Ending → Heap → Prop) (H : Heap) : vcFun prog h_seq f115 [SV.c (SC.v (Value.slice a n c)), SV.c (SC.v (Value.slice a' n' c'))] R H = nf_seq a n c a' n' c' R H := by kernel_rfl

def nf_nsame (lf : Bool) (a : Option Addr) (n : Nat) (c : Nat) (nx : Int) (ks : List Int) (cs : List Int) (lf' : Bool) (a' : Option Addr) (n' : Nat) (c' : Nat) (nx' : Int) (ks' : List Int) (cs' : List Int) (R : Ending → Heap → Prop) (H : Heap) : Prop := Br (lf == lf') (Br (nx == nx') (Br (andO none (ks == ks')) (Br (andO none (cs == cs')) (Meets prog (115 : Nat) [Value.slice a n c, Value.slice a' n' c'] H fun (e : Ending) (H' : Nat → Option Obj) ↦ ∃ (b : Bool), e = Ending.returned (Value.bool b) ∧ R (Ending.returned (Value.bool b)) H') (R (Ending.returned (Value.bool false)) H)) (R (Ending.returned (Value.bool false)) H)) (R (Ending.returned (Value.bool false)) H)) (R (Ending.returned (Value.bool false)) H)
theorem vc_nsame (lf : Bool) (a : Option Addr) (n : Nat) (c : Nat) (nx : Int) (ks : List Int) (cs : List Int) (lf' : Bool) (a' : Option Addr) (n' : Nat) (c' : Nat) (nx' : Int) (ks' : List Int) (cs' : List Int) (R : Ending → Heap → Prop) (H : Heap) : vcFun prog h_nsame f79 [ndA lf a n c nx ks cs, ndA lf' a' n' c' nx' ks' cs'] R H = nf_nsame lf a n c nx ks cs lf' a' n' c' nx' ks' cs' R H := by kernel_rfl

def nf_chgd (g : Option Addr) (g' : Option Addr) (R : Ending → Heap → Prop) (H : Heap) : Prop := g = g ∧ g' = g' ∧ LoopP (fun (K : (List (List Value) × Int × PUnit) × PUnit → (Nat → Option Obj) → Prop) (p : (List (List Value) × Int × PUnit) × PUnit) (H : Nat → Option Obj) ↦ Br (decide (p.fst.snd.fst < (256 : Int))) (Meets prog (50 : Nat) [Value.pointer g, Value.int IntKind.i64 p.fst.snd.fst] H fun (e : Ending) (H' : Nat → Option Obj) ↦ ∃ (b : Bool), ∃ (a : Option Addr), ∃ (n : Nat), ∃ (c : Nat), ∃ (n_1 : Int), ∃ (xs : List Int), List.length xs = (4 : Nat) ∧ ∃ (xs_1 : List Int), List.length xs_1 = (4 : Nat) ∧ ∃ (b_1 : Bool), e = Ending.returned (Value.tuple { toList := [Value.agg { toList := Value.bool b :: Value.slice a n c :: Value.int IntKind.i64 n_1 :: List.append (List.map (Value.int IntKind.i64) xs) (flatD [Seg.ints IntKind.i64 (4 : Nat) xs_1]) }, Value.bool b_1] }) ∧ Meets prog (50 : Nat) [Value.pointer g', Value.int IntKind.i64 p.fst.snd.fst] H' fun (e : Ending) (H' : Nat → Option Obj) ↦ ∃ (b_2 : Bool), ∃ (a_1 : Option Addr), ∃ (n_2 : Nat), ∃ (c_1 : Nat), ∃ (n_3 : Int), ∃ (xs_2 : List Int), List.length xs_2 = (4 : Nat) ∧ ∃ (xs_3 : List Int), List.length xs_3 = (4 : Nat) ∧ ∃ (b_3 : Bool), e = Ending.returned (Value.tuple { toList := [Value.agg { toList := Value.bool b_2 :: Value.slice a_1 n_2 c_1 :: Value.int IntKind.i64 n_3 :: List.append (List.map (Value.int IntKind.i64) xs_2) (flatD [Seg.ints IntKind.i64 (4 : Nat) xs_3]) }, Value.bool b_3] }) ∧ Br b_1 (Br (!b_3) (List.length (List.append p.fst.fst [[Value.int IntKind.i64 (1 : Int), Value.int IntKind.i64 p.fst.snd.fst]]) * (16 : Nat) ≤ (140737488355328 : Nat) ∧ g = g ∧ g' = g' ∧ K ((List.append p.fst.fst [[Value.int IntKind.i64 (1 : Int), Value.int IntKind.i64 p.fst.snd.fst]], IntKind.wrap IntKind.i64 (p.fst.snd.fst + (1 : Int)), PUnit.unit), PUnit.unit) H') (Meets prog (79 : Nat) [Value.agg { toList := Value.bool b :: Value.slice a n c :: Value.int IntKind.i64 n_1 :: List.append (List.map (Value.int IntKind.i64) xs) (List.map (Value.int IntKind.i64) xs_1 ++ []) }, Value.agg { toList := Value.bool b_2 :: Value.slice a_1 n_2 c_1 :: Value.int IntKind.i64 n_3 :: List.append (List.map (Value.int IntKind.i64) xs_2) (List.map (Value.int IntKind.i64) xs_3 ++ []) }] H' fun (e : Ending) (H' : Nat → Option Obj) ↦ ∃ (b : Bool), e = Ending.returned (Value.bool b) ∧ Br (!b) (List.length (List.append p.fst.fst [[Value.int IntKind.i64 (1 : Int), Value.int IntKind.i64 p.fst.snd.fst]]) * (16 : Nat) ≤ (140737488355328 : Nat) ∧ g = g ∧ g' = g' ∧ K ((List.append p.fst.fst [[Value.int IntKind.i64 (1 : Int), Value.int IntKind.i64 p.fst.snd.fst]], IntKind.wrap IntKind.i64 (p.fst.snd.fst + (1 : Int)), PUnit.unit), PUnit.unit) H') (Br b_3 (Br (!b_1) (List.length (List.append p.fst.fst [[Value.int IntKind.i64 (2 : Int), Value.int IntKind.i64 p.fst.snd.fst]]) * (16 : Nat) ≤ (140737488355328 : Nat) ∧ g = g ∧ g' = g' ∧ K ((List.append p.fst.fst [[Value.int IntKind.i64 (2 : Int), Value.int IntKind.i64 p.fst.snd.fst]], IntKind.wrap IntKind.i64 (p.fst.snd.fst + (1 : Int)), PUnit.unit), PUnit.unit) H') (g = g ∧ g' = g' ∧ K ((p.fst.fst, IntKind.wrap IntKind.i64 (p.fst.snd.fst + (1 : Int)), PUnit.unit), PUnit.unit) H')) (g = g ∧ g' = g' ∧ K ((p.fst.fst, IntKind.wrap IntKind.i64 (p.fst.snd.fst + (1 : Int)), PUnit.unit), PUnit.unit) H')))) (Br b_3 (Br (!b_1) (List.length (List.append p.fst.fst [[Value.int IntKind.i64 (2 : Int), Value.int IntKind.i64 p.fst.snd.fst]]) * (16 : Nat) ≤ (140737488355328 : Nat) ∧ g = g ∧ g' = g' ∧ K ((List.append p.fst.fst [[Value.int IntKind.i64 (2 : Int), Value.int IntKind.i64 p.fst.snd.fst]], IntKind.wrap IntKind.i64 (p.fst.snd.fst + (1 : Int)), PUnit.unit), PUnit.unit) H') (g = g ∧ g' = g' ∧ K ((p.fst.fst, IntKind.wrap IntKind.i64 (p.fst.snd.fst + (1 : Int)), PUnit.unit), PUnit.unit) H')) (g = g ∧ g' = g' ∧ K ((p.fst.fst, IntKind.wrap IntKind.i64 (p.fst.snd.fst + (1 : Int)), PUnit.unit), PUnit.unit) H'))) (∀ (v : Value) (H' : Nat → Option Obj), H ≤ H' → (∀ (b : Nat), blockOf v = some b → H b = none) → (∀ (b : Nat) (o : Obj), H' b = some o → H b = some o ∨ blockOf v = some b) → RowAt H' v (69 : Nat) (2 : Nat) p.fst.fst → R (Ending.returned v) H')) (([], (1 : Int), PUnit.unit), PUnit.unit) H
theorem vc_chgd (g : Option Addr) (g' : Option Addr) (R : Ending → Heap → Prop) (H : Heap) : vcFun prog h_chgd f46 [SV.c (SC.v (Value.pointer g)), SV.c (SC.v (Value.pointer g'))] R H = nf_chgd g g' R H := by kernel_rfl

def nf_lkeep (a : Option Addr) (n : Nat) (c : Nat) (i : Int) (x : Int) (y : Int) (d : ByteArray) (R : Ending → Heap → Prop) (H : Heap) : Prop := Meets prog (39 : Nat) [] H fun (e : Ending) (H' : Nat → Option Obj) ↦ ∃ (b : Bool), e = Ending.returned (Value.bool b) ∧ Br (!b) (R (Ending.returned (Value.bool false)) H') (Meets prog (21 : Nat) [Value.slice a n c, Value.int IntKind.i64 (30 : Int)] H' fun (e : Ending) (H' : Nat → Option Obj) ↦ ∃ (a : Option Addr), ∃ (n : Nat), ∃ (c : Nat), e = Ending.returned (Value.slice a n c) ∧ Meets prog (22 : Nat) [Value.slice a n c] H' fun (e : Ending) (H' : Nat → Option Obj) ↦ ∃ (a : Option Addr), ∃ (n : Int), e = Ending.returned (Value.tuple { toList := [Value.pointer a, Value.int IntKind.i64 n] }) ∧ Meets prog (45 : Nat) [Value.pointer a, Value.agg { toList := [Value.int IntKind.i64 i, Value.int IntKind.u32 x, Value.int IntKind.u32 y, Value.string d] }] H' fun (e : Ending) (H' : Nat → Option Obj) ↦ ∃ (a_1 : Option Addr), ∃ (n_1 : Int), e = Ending.returned (Value.tuple { toList := [Value.pointer a_1, Value.int IntKind.i64 n_1] }) ∧ Br (n != (0 : Int)) (R (Ending.returned (Value.bool true)) H') (Br (n_1 != (0 : Int)) (R (Ending.returned (Value.bool true)) H') (Meets prog (46 : Nat) [Value.pointer a_1, Value.pointer a] H' fun (e : Ending) (H' : Nat → Option Obj) ↦ ∃ (a_2 : Option Addr), ∃ (n : Nat), ∃ (c : Nat), e = Ending.returned (Value.slice a_2 n c) ∧ a = a ∧ a_1 = a_1 ∧ a_2 = a_2 ∧ n = n ∧ c = c ∧ LoopP (fun (K : (Int × PUnit) × PUnit → (Nat → Option Obj) → Prop) (p : (Int × PUnit) × PUnit) (H : Nat → Option Obj) ↦ Br (decide (p.fst.fst < (↑n : Int))) (((0 : Int) ≤ p.fst.fst ∧ p.fst.fst < (↑n : Int)) ∧ PtrK a_2 fun (A : Addr) ↦ PtrK (some (Addr.add A (Int.toNat p.fst.fst * (2 : Nat)))) fun (a_3 : Addr) ↦ PtrK (some (Addr.add a_3 (0 : Nat))) fun (a_4 : Addr) ↦ ∃ (n_2 : Int), Heap.has H a_4 [Value.int IntKind.i64 n_2] ∧ Br (n_2 != (1 : Int)) (R (Ending.returned (Value.bool false)) H) (a = a ∧ a_1 = a_1 ∧ a_2 = a_2 ∧ n = n ∧ c = c ∧ K ((IntKind.wrap IntKind.i64 (p.fst.fst + (1 : Int)), PUnit.unit), PUnit.unit) H)) (Meets prog (28 : Nat) [Value.pointer a_1] H fun (e : Ending) (H' : Nat → Option Obj) ↦ ∃ (a_3 : Option Addr), ∃ (n_2 : Nat), ∃ (c : Nat), e = Ending.returned (Value.slice a_3 n_2 c) ∧ Meets prog (28 : Nat) [Value.pointer a] H' fun (e : Ending) (H' : Nat → Option Obj) ↦ ∃ (a : Option Addr), ∃ (n_3 : Nat), ∃ (c : Nat), e = Ending.returned (Value.slice a n_3 c) ∧ Br (decide (IntKind.wrap IntKind.i64 ((↑n_2 : Int) - (↑n_3 : Int)) ≥ (0 : Int))) (R (Ending.returned (Value.bool (decide (IntKind.wrap IntKind.i64 ((↑n : Int) - IntKind.wrap IntKind.i64 ((↑n_2 : Int) - (↑n_3 : Int))) ≤ (41 : Int))))) H') (R (Ending.returned (Value.bool false)) H'))) (((0 : Int), PUnit.unit), PUnit.unit) H')))
theorem vc_lkeep (a : Option Addr) (n : Nat) (c : Nat) (i : Int) (x : Int) (y : Int) (d : ByteArray) (R : Ending → Heap → Prop) (H : Heap) : vcFun prog h_lkeep f12 [SV.c (SC.v (Value.slice a n c)), ptA i x y d] R H = nf_lkeep a n c i x y d R H := by kernel_rfl

def chgOf (m m0 : M) (i : Int) : List (Int × Int) := if (m i).isSome = true ∧ m i ≠ m0 i then [(1, i)] else if (m0 i).isSome = true ∧ m i = none then [(2, i)] else []
def chgL (m m0 : M) (t : Nat) : List (Int × Int) := (List.range t).flatMap fun k : Nat => chgOf m m0 ((k : Int) + 1)
theorem chgL_succ (m m0 : M) (t : Nat) : chgL m m0 (t + 1) = chgL m m0 t ++ chgOf m m0 ((t : Int) + 1) := by simp [chgL, List.range_succ]
theorem chgOf_len (m m0 : M) (i : Int) : (chgOf m m0 i).length ≤ 1 := by unfold chgOf; split; simp; split <;> simp
theorem chgL_len (m m0 : M) : ∀ t, (chgL m m0 t).length ≤ t
  | 0 => by simp [chgL]
  | t + 1 => by rw [chgL_succ, List.length_append]; have := chgL_len m m0 t; have := chgOf_len m m0 ((t : Int) + 1); omega
abbrev ents (l : List (Int × Int)) : List (List Value) := l.map fun x => [vi x.1, vi x.2]
section
variable {R : Ending → Heap → Prop} {H : Heap}
theorem s_seq {v v' : Value} {l l' : List Pt} (h : SliceAt H v 4 (pts l)) (h' : SliceAt H v' 4 (pts l')) (hl : l.length ≤ 10000000000000) (k : R (.returned (.bool (decide (l = l')))) H) : Meets prog 115 [v, v'] H R := by
  obtain ⟨a, n, c, e, hn⟩ := h
  subst e
  have h : SliceAt H (.slice a n c) 4 (pts l) := ⟨a, n, c, rfl, hn⟩
  have hln : l.length = n := by simpa [pts] using hn.1
  obtain ⟨a', n', c', e, hn'⟩ := h'
  subst e
  have h' : SliceAt H (.slice a' n' c') 4 (pts l') := ⟨a', n', c', rfl, hn'⟩
  have hln' : l'.length = n' := by simpa [pts] using hn'.1
  refine spec_of func115 (by kernel_rfl) (fun t h => ?_) ?_ (vc_seq a n c a' n' c' R H) ?_
  · have : t = 28 := memN_one h
    subst this
    exact eqOK_of (by kernel_rfl) (by kernel_rfl) (by kernel_rfl)
  · simp [argsR, SV.rep, SC.rep, one]
  unfold nf_seq
  refine br (fun q => ?_) fun q => ?_
  · have : decide (l = l') = false := decide_eq_false (by rintro rfl; simp at q; omega)
    rwa [this] at k
  simp only [bne_eq_false_iff_eq, Int.natCast_inj] at q
  simp only [true_and]
  refine ⟨fun p H' => ∃ t : Nat, p.1.1 = (t : Int) ∧ t ≤ n ∧ l.take t = l'.take t ∧ H' = H, fun p _ => (n - p.1.1).toNat, ⟨0, rfl, by omega, by simp, rfl⟩, ?_⟩
  rintro ⟨⟨i, _⟩, _⟩ H1 ⟨t, hi, ht, f, rfl⟩
  simp only at hi ⊢
  subst hi
  refine br (fun q1 => ?_) fun q1 => ?_
  · simp only [decide_eq_true_eq] at q1
    obtain ⟨y, hd, htk, hx⟩ := drop_cons (l := l) (k := t) (by omega)
    obtain ⟨y', hd', htk', hx'⟩ := drop_cons (l := l') (k := t) (by omega)
    obtain ⟨A, e, g1⟩ := pr_get h (i := t) hx
    subst e
    obtain ⟨A', e, g1'⟩ := pr_get h' (i := t) hx'
    subst e
    refine ⟨⟨by omega, by omega⟩, ptr rfl (ptr rfl ⟨_, _, _, _, g1, ⟨by omega, by omega⟩, ptr rfl (ptr rfl ⟨_, _, _, _, g1', br (fun q2 => ?_) fun q2 => ?_⟩)⟩)⟩
    · have : decide (l = l') = false := decide_eq_false (by rintro rfl; rw [hx] at hx'; cases hx'; simp [andO, ba_beq] at q2)
      rwa [this] at k
    · rw [w64 (by omega)]
      have : y = y' := by
        simp [andO, ba_beq] at q2
        exact pt_eta q2.1.1.1 q2.1.1.2 q2.1.2 q2.2
      exact ⟨⟨t + 1, by omega, by omega, by rw [htk, htk', f, this], by trivial⟩, by omega⟩
  · simp only [decide_eq_false_iff_not] at q1
    rw [List.take_of_length_le (by omega), List.take_of_length_le (by omega)] at f
    rwa [decide_eq_true f] at k
theorem NdAt.nd {H : Heap} {v : Value} {d : Nd} (h : NdAt H v d) : d.kids.length = 4 ∧ d.counts.length = 4 := by
  obtain ⟨a, n, c, _, _, h1, h2⟩ := h; exact ⟨h1, h2⟩
theorem s_nsame {v v' : Value} {d d' : Nd} (h : NdAt H v d) (h' : NdAt H v' d') (hl : d.pts.length ≤ 1000000) (k : R (.returned (.bool (decide (d = d')))) H) : Meets prog 79 [v, v'] H R := by
  obtain ⟨a, n, c, rfl, h1, h2, h3⟩ := h
  obtain ⟨a', n', c', rfl, h1', h2', h3'⟩ := h'
  refine spec_of func79 (by kernel_rfl) (fun t h => ?_) ?_ (vc_nsame d.leaf a n c d.next d.kids d.counts d'.leaf a' n' c' d'.next d'.kids d'.counts R H) ?_
  · have : t = 72 := memN_one h
    subst this
    exact eqOK_of (by kernel_rfl) (by kernel_rfl) (by kernel_rfl)
  · simp [argsR, SV.rep, SegsRep, SC.rep, one, h2, h3, h2', h3']
  unfold nf_nsame
  have no : d ≠ d' → R (.returned (.bool false)) H := fun hne => by rwa [decide_eq_false hne] at k
  refine br (fun q1 => br (fun q2 => br (fun q3 => br (fun q4 => ?_) fun q4 => ?_) fun q3 => ?_) fun q2 => ?_) fun q1 => ?_
  · refine s_seq h1 h1' (by omega) ⟨_, rfl, ?_⟩
    have : (d.pts = d'.pts) ↔ (d = d') := by
      refine ⟨fun e => ?_, fun e => by rw [e]⟩
      simp only [andO, beq_iff_eq] at q1 q2 q3 q4
      cases d; cases d'
      simp_all
    rwa [decide_eq_decide.2 this]
  · exact no (by rintro rfl; simp [andO] at q4)
  · exact no (by rintro rfl; simp [andO] at q3)
  · exact no (by rintro rfl; simp at q2)
  · exact no (by rintro rfl; simp at q1)
theorem s_chgd {g g' : Addr} {r r' : Nat} {m m0 : M} (hg : GroveAt H g r m) (hg' : GroveAt H g' r' m0) (hD : Dom m) (hD0 : Dom m0) (k : ∀ v H', H ≤ H' → (∀ b, blockOf v = some b → H b = none) → RowAt H' v 69 2 (ents (chgL m m0 255)) → R (.returned v) H') :
    Meets prog 46 [.pointer (some g), .pointer (some g')] H R := by
  refine spec_of func46 (by kernel_rfl) (fun t h => by cases h) ?_ (vc_chgd (some g) (some g') R H) ?_
  · simp [argsR, SV.rep, SC.rep, one]
  unfold nf_chgd
  simp only [true_and]
  refine ⟨fun p H' => ∃ t : Nat, p.1.1 = ents (chgL m m0 t) ∧ p.1.2.1 = (t : Int) + 1 ∧ t ≤ 255 ∧ H ≤ H', fun p _ => (256 - p.1.2.1).toNat, ⟨0, rfl, by simp, by omega, heap_refl _⟩, ?_⟩
  rintro ⟨⟨e1, i, _⟩, _⟩ H1 ⟨t, h1, hi, ht, hle⟩
  simp only at h1 hi ⊢
  subst h1; subst hi
  refine br (fun q => ?_) fun q => ?_
  · simp only [decide_eq_true_eq] at q
    have fewD : ∀ {m : M}, Dom m → ∀ d, m ((t : Int) + 1) = some d → d.pts.length ≤ 1000000 := fun hD d e => Nat.le_trans (hD.few e) (by omega)
    refine s_get (hg.le hle) (fewD hD) fun v2 H2 hle2 hv2 => ?_
    have hv2' := hv2
    obtain ⟨a2, n2, c2, rfl, hs2, hk2, hc2⟩ := hv2
    refine ⟨_, a2, n2, c2, _, _, hk2, _, hc2, _, rfl, ?_⟩
    refine s_get (hg'.le (heap_trans hle hle2)) (fewD hD0) fun v3 H3 hle3 hv3 => ?_
    have hv3' := hv3
    obtain ⟨a3, n3, c3, rfl, hs3, hk3, hc3⟩ := hv3
    refine ⟨_, a3, n3, c3, _, _, hk3, _, hc3, _, rfl, ?_⟩
    rw [w64 (by omega)]
    have hle13 := heap_trans hle (heap_trans hle2 hle3)
    have hsc := chgL_succ m m0 t
    have hlen := chgL_len m m0 t
    have put : ∀ x : Int, chgOf m m0 ((t : Int) + 1) = [(x, (t : Int) + 1)] → ∀ {K : (List (List Value) × Int × Unit) × Unit → Heap → Prop}, ((∃ t' : Nat, ents (chgL m m0 (t + 1)) = ents (chgL m m0 t') ∧ (t : Int) + 1 + 1 = (t' : Int) + 1 ∧ t' ≤ 255 ∧ H ≤ H3) ∧ True) := fun x _ K => ⟨⟨t + 1, rfl, by omega, by omega, hle13⟩, trivial⟩
    have app : ∀ x : Int, chgOf m m0 ((t : Int) + 1) = [(x, (t : Int) + 1)] → List.append (ents (chgL m m0 t)) [[vi x, vi ((t : Int) + 1)]] = ents (chgL m m0 (t + 1)) := fun x hx => by rw [hsc, hx]; simp [append_eq]
    have non : chgOf m m0 ((t : Int) + 1) = [] → ents (chgL m m0 t) = ents (chgL m m0 (t + 1)) := fun hx => by rw [hsc, hx]; simp
    have bnd : ∀ x : Int, (List.append (ents (chgL m m0 t)) [[vi x, vi ((t : Int) + 1)]]).length * 16 ≤ 140737488355328 := fun x => by rw [append_eq, List.length_append, List.length_map]; simp; omega
    generalize hid : (t : Int) + 1 = id at *
    cases e1 : m id with
    | none =>
      simp only [e1, Option.isSome_none]
      refine br (fun q => by cases q) fun _ => br (fun q2 => br (fun _ => ?_) fun q3 => by cases q3) fun q2 => ?_
      · have hx : chgOf m m0 id = [(2, id)] := by unfold chgOf; rw [if_neg (by rw [e1]; simp), if_pos ⟨q2, e1⟩]
        exact ⟨bnd 2, ⟨t + 1, app 2 hx, by omega, by omega, hle13⟩, by omega⟩
      · have hx : chgOf m m0 id = [] := by unfold chgOf; rw [if_neg (by rw [e1]; simp), if_neg (by rw [q2]; simp)]
        exact ⟨⟨t + 1, non hx, by omega, by omega, hle13⟩, by omega⟩
    | some d =>
      simp only [e1, Option.isSome_some]
      refine br (fun _ => br (fun q2 => ?_) fun q2 => ?_) fun q => by cases q
      · have hx : chgOf m m0 id = [(1, id)] := by
          unfold chgOf; rw [if_pos ⟨by rw [e1]; rfl, fun e => by rw [← e, e1] at q2; simp at q2⟩]
        exact ⟨bnd 1, ⟨t + 1, app 1 hx, by omega, by omega, hle13⟩, by omega⟩
      · cases e2 : m0 id with
        | none => rw [e2] at q2; simp at q2
        | some d0 =>
          rw [e1] at hv2'; rw [e2] at hv3'
          have hn1 : NdAt H3 (ndV d.leaf a2 n2 c2 d.next d.kids d.counts) d := by
            exact hv2'.le hle3
          have hn2 : NdAt H3 (ndV d0.leaf a3 n3 c3 d0.next d0.kids d0.counts) d0 := by
            exact hv3'
          refine s_nsame hn1 hn2 (fewD hD d (hid ▸ e1)) ⟨_, rfl, br (fun q3 => ?_) fun q3 => ?_⟩
          · have hne : d ≠ d0 := by simpa using q3
            have hx : chgOf m m0 id = [(1, id)] := by
              unfold chgOf; rw [if_pos ⟨by rw [e1]; rfl, fun e => by rw [e1, e2] at e; cases e; exact hne rfl⟩]
            exact ⟨bnd 1, ⟨t + 1, app 1 hx, by omega, by omega, hle13⟩, by omega⟩
          · have heq : d = d0 := by simpa using q3
            have hx : chgOf m m0 id = [] := by
              unfold chgOf; rw [if_neg (by rw [e1, e2, heq]; simp), if_neg (by rw [e1]; simp)]
            simp only [Option.isSome_some]
            exact br (fun _ => br (fun q => by cases q) fun _ => ⟨⟨t + 1, non hx, by omega, by omega, hle13⟩, by omega⟩) fun q => by cases q
  · simp only [decide_eq_false_iff_not] at q
    obtain rfl : t = 255 := by omega
    exact fun v H' g1 g2 _ g4 => k v H' (heap_trans hle g1) (fresh_le hle g2) g4
end
end Cr

/- TreeBuilds, TreeNone, TreeBack: the laws' walks. -/
set_option linter.unusedVariables false
set_option linter.unusedSimpArgs false
namespace Cr
open Go Sx Stb Bt
open Go.Proofs.Try
set_option maxRecDepth 100000
section
variable {R : Ending → Heap → Prop} {H : Heap}
theorem BuildRes.bad {l : List Pt} {a : Option Addr} {n : Int} {t : Nat} {p : Pt} (h : BuildRes l a n H) (hx : l[t]? = some p) (hok : ∀ (j : Nat) (q : Pt), j < t → l[j]? = some q → ptOK q) (hb : ¬ ptOK p) : a = none ∧ n = pcode p := by
  rcases h with ⟨i, q, h1, h2, h3, h4, h5⟩ | ⟨h1, _⟩
  · have hi : i = t := by
      rcases Nat.lt_trichotomy i t with h | h | h
      · exact absurd (hok i q h h1) (pcode_bad h3)
      · exact h
      · exact absurd (h2 t p h hx) hb
    subst hi
    rw [hx] at h1; cases h1
    exact ⟨h4, h5⟩
  · exact absurd (h1 p (List.mem_of_getElem? hx)) hb
theorem s_ltb {v : Value} {l0 : List Pt} (h : SliceAt H v 4 (pts l0)) (hl : l0.length ≤ 10000000000000) (hp : ∀ p ∈ l0, PtR p) (k : ∀ H', H ≤ H' → R (.returned (.bool true)) H') :
    Meets prog 10 [v] H R := by
  obtain ⟨a, m, c, e, hm⟩ := h
  subst e
  have h : SliceAt H (.slice a m c) 4 (pts l0) := ⟨a, m, c, rfl, hm⟩
  have hlm : l0.length = m := by simpa [pts] using hm.1
  refine spec_of func10 (by kernel_rfl) (fun t h => by cases h) ?_ (vc_ltb a m c R H) ?_
  · simp [argsR, SV.rep, SC.rep, one]
  unfold nf_ltb
  refine s_alive23 fun H0 hle0 => ⟨_, rfl, br (fun q => by cases q) fun _ => ?_⟩
  have h0 := slice_le h hle0
  refine ⟨fun p H' => ∃ l : List Pt, SliceAt H' (.slice p.1.1.1 p.1.1.2.1 p.1.1.2.2) 4 (pts l) ∧ l.length ≤ 40 ∧ (∀ q ∈ l, PtR q) ∧ H ≤ H', ?_, ?_⟩
  · refine br (fun q => ?_) fun q => ?_
    · simp only [decide_eq_true_eq] at q
      refine ⟨⟨by omega, by have := (slice_len h0).2; omega⟩, l0.take 40, ?_, by simp; omega, fun q hq => hp q (List.mem_of_mem_take hq), hle0⟩
      have := slice_pre h0 (hi := 40) (by omega)
      rwa [show (pts l0).take 40 = pts (l0.take 40) by simp [pts]] at this
    · simp only [decide_eq_false_iff_not] at q
      exact ⟨l0, h0, by omega, hp, hle0⟩
  clear h0 h hm hlm hl hp
  rintro ⟨⟨⟨a, n, c⟩, _⟩, _⟩ H1 ⟨l, hs, hl40, hp, hle⟩
  simp only at hs ⊢
  have hln : l.length = n := by simpa [pts] using (slice_len hs).1
  refine s_buildR hs (by omega) hp fun ag ng H2 hle2 hB => ⟨_, _, rfl, ?_⟩
  have hs2 := slice_le hs hle2
  have hleH := heap_trans hle hle2
  simp only [true_and]
  refine ⟨fun p H' => ∃ t : Nat, p.1.1 = (t : Int) ∧ t ≤ n ∧ (∀ (j : Nat) (q : Pt), j < t → l[j]? = some q → ptOK q) ∧ H' = H2, fun p _ => (n - p.1.1).toNat, ⟨0, rfl, by omega, by omega, rfl⟩, ?_⟩
  rintro ⟨⟨i, _⟩, _⟩ H3 ⟨t, hi, ht, hok, rfl⟩
  simp only at hi ⊢
  subst hi
  refine br (fun q => ?_) fun q => ?_
  · simp only [decide_eq_true_eq] at q
    obtain ⟨p, _, htk, hx⟩ := drop_cons (l := l) (k := t) (by omega)
    obtain ⟨A, e, f0, f1, f2, f3, f4⟩ := pr_fld hs2 (i := t) hx
    subst e
    rw [Int.toNat_natCast, w64 (by omega)]
    have bad : ¬ ptOK p → ∀ z : Int, pcode p = z → Br (ng == z) (R (.returned (.bool ag.isNone)) H3) (R (.returned (.bool false)) H3) := fun hb z hz => by
      obtain ⟨e1, e2⟩ := hB.bad hx hok hb
      rw [e1, e2, hz, beq_self_eq_true]
      exact k _ hleH
    refine ⟨⟨by omega, by omega⟩, ptr rfl (ptr rfl (ptr rfl ⟨_, f1, br (fun q1 => ?_) fun q1 => ⟨⟨by omega, by omega⟩, ptr rfl (ptr rfl (ptr rfl ⟨_, f1, br (fun q2 => ?_) fun q2 => ⟨⟨by omega, by omega⟩, ptr rfl (ptr rfl (ptr rfl ⟨_, f4, br (fun q3 => ?_) fun q3 => ?_⟩))⟩⟩))⟩⟩))⟩
    all_goals simp only [decide_eq_true_eq, decide_eq_false_iff_not] at *
    · refine bad (fun h => by have := h.1; omega) 4 ?_
      unfold pcode; rw [if_pos (by omega)]
    · refine bad (fun h => by have := h.2.1; omega) 4 ?_
      unfold pcode; rw [if_pos (by omega)]
    · refine bad (fun h => by have := h.2.2; omega) 5 ?_
      unfold pcode; rw [if_neg (by omega), if_pos (by omega)]
    · refine ⟨⟨t + 1, by omega, by omega, fun j y hj hy => ?_, trivial⟩, by omega⟩
      rcases Nat.lt_or_ge j t with h | h
      · exact hok j y h hy
      · obtain rfl : j = t := by omega
        rw [hx] at hy; cases hy
        exact ⟨by omega, by omega, by omega⟩
  · simp only [decide_eq_false_iff_not] at q
    obtain rfl : t = n := by omega
    have hall : ∀ p ∈ l, ptOK p := fun p hm => by
      obtain ⟨j, hj⟩ := List.mem_iff_getElem?.1 hm
      exact hok j p (by have := (List.getElem?_eq_some_iff.1 hj).1; omega) hj
    rcases hB with ⟨i, p, h1, _, h3, _⟩ | ⟨_, hB⟩
    · exact absurd (hall p (List.mem_of_getElem? h1)) (pcode_bad h3)
    refine s_once hs2 (by decide) (by omega) fun v4 H4 hle4 hfr4 hrow4 => ?_
    obtain ⟨a4, c4, rfl⟩ := row_val hrow4
    have hpl : (pts (onceP 40 l)).length = (onceP 40 l).length := by simp [pts]
    have hle4H := heap_trans hleH hle4
    refine ⟨_, _, _, rfl, ?_⟩
    rw [hpl]
    have hlo : 255 < nds 32 (sortP l) ∨ nds 32 (sortP l) ≤ 255 := by omega
    rcases hB with ⟨hnd, rfl, rfl⟩ | ⟨hnd, hB⟩
    · refine br (fun _ => k _ hle4H) fun q1 => ?_
      exfalso
      have : (onceP 40 l).length = l.length := by simp at q1; omega
      have e := onceP_full l this
      exact hnd (e ▸ (once_ok 40 l).dist)
    · rw [onceP_id l hall hnd (by omega)]
      refine br (fun q1 => ?_) fun _ => ?_
      · exfalso; rw [hln] at q1; simp at q1
      have hs4 := slice_le hs2 hle4
      refine s_rNodes hs4 (by omega) hp fun H5 hle5 => ⟨_, rfl, ?_⟩
      have hs5 := slice_le hs4 hle5
      have hle5H := heap_trans hle4H hle5
      rcases hB with ⟨h255, rfl, rfl⟩ | ⟨h255, rfl, b, r, mm, I, rfl, hg, hT, _⟩
      · refine br (fun _ => k _ hle5H) fun q1 => ?_
        exfalso; simp at q1; omega
      · refine br (fun q1 => ?_) fun _ => br (fun _ => ?_) fun q1 => by cases q1
        · exfalso; simp at q1; omega
        have hg5 := hg.le (heap_trans hle4 hle5)
        refine s_tshape hg5 hT fun v6 H6 hle6 hfr6 hrow6 => ?_
        obtain ⟨a6, c6, rfl⟩ := row_val hrow6
        refine ⟨_, _, _, rfl, s_rShape (slice_le hs5 hle6) (by omega) hp fun v7 H7 hle7 hfr7 hrow7 => ?_⟩
        obtain ⟨a7, c7, rfl⟩ := row_val hrow7
        refine ⟨_, _, _, rfl, s_ints (l := shpN 32 (sortP l)) (l' := shpN 32 (sortP l)) (slice_le (row_slice hrow6) hle7) (row_slice hrow7) (by rw [shpN_len]; omega) ⟨_, rfl, ?_⟩⟩
        rw [decide_eq_true rfl]
        have hle57 := heap_trans hle6 hle7
        refine br (fun _ => ?_) fun q => by cases q
        refine s_treepts (hg5.le hle57) hT fun v8 H8 hle8 hfr8 hrow8 => ?_
        obtain ⟨a8, c8, rfl⟩ := row_val hrow8
        have hle58 := heap_trans hle57 hle8
        refine ⟨_, _, _, rfl, s_rsort (slice_le hs5 hle58) (by omega) fun v9 H9 hle9 hfr9 hrow9 => ?_⟩
        obtain ⟨a9, c9, rfl⟩ := row_val hrow9
        have hsl := sortP_len l
        refine ⟨_, _, _, rfl, s_points (l := sortP l) (l' := sortP l) (slice_le (row_slice hrow8) hle9) (row_slice hrow9) (by omega) ⟨_, rfl, ?_⟩⟩
        rw [decide_eq_true rfl]
        have hle59 := heap_trans hle58 hle9
        refine br (fun _ => ?_) fun q => by cases q
        refine s_treeids (hg5.le hle59) hT fun v10 H10 hle10 hfr10 hnl hrow10 => ?_
        obtain ⟨a10, c10, rfl⟩ := row_val hrow10
        have hil : (cells (idsOf mm)).length = nds 32 (sortP l) := by rw [List.length_map, hnl]
        have hle510 := heap_trans hle59 hle10
        refine ⟨_, _, _, rfl, s_rNodes (slice_le hs5 hle510) (by omega) hp fun H11 hle11 => ⟨_, rfl, ?_⟩⟩
        rw [hil, beq_self_eq_true]
        exact k _ (heap_trans hle5H (heap_trans hle510 hle11))
theorem any_snoc {L : List Pt} {t : Nat} {x p : Pt} (h : L.take (t + 1) = L.take t ++ [x]) : (L.take (t + 1)).any (mt p) = ((L.take t).any (mt p) || mt p x) := by rw [h]; simp
theorem s_ltn {v : Value} {l : List Pt} {p : Pt} (h : SliceAt H v 4 (pts l)) (hl : l.length ≤ 10000000000000) (hp : ∀ p ∈ l, PtR p) (hpr : PtR p) (k : ∀ H', H ≤ H' → R (.returned (.bool true)) H') :
    Meets prog 13 [v, ptV p] H R := by
  obtain ⟨a, m, c, e, hm⟩ := h
  subst e
  have h : SliceAt H (.slice a m c) 4 (pts l) := ⟨a, m, c, rfl, hm⟩
  refine spec_of func13 (by kernel_rfl) (fun t h => by cases h) ?_ (vc_ltn a m c p.id p.x p.y p.data R H) ?_
  · simp [argsR, SV.rep, SegsRep, SC.rep, one]
  unfold nf_ltn
  refine s_alive23 fun H0 hle0 => ⟨_, rfl, br (fun q => by cases q) fun _ => ?_⟩
  obtain ⟨o1, o2, o3, o4⟩ := once_facts hp 30
  have o3 := o3 (by decide)
  refine s_once (slice_le h hle0) (by decide) hl fun v1 H1 hle1 hfr1 hrow1 => ?_
  obtain ⟨a1, c1, rfl⟩ := row_val hrow1
  generalize hL : onceP 30 l = L at *
  have hpl : (pts L).length = L.length := by simp [pts]
  rw [hpl] at hrow1 hfr1 ⊢
  have hle : H ≤ H1 := heap_trans hle0 hle1
  refine ⟨_, _, _, rfl, s_buildR (row_slice hrow1) (by omega) o4 fun ag ng H2 hle2 hB => ⟨_, _, rfl, ?_⟩⟩
  have hleH := heap_trans hle hle2
  refine br (fun _ => k _ hleH) fun q => ?_
  have hn0 : ng = 0 := by simpa using q
  rcases hB with ⟨i, x, h1, _, h3, _⟩ | ⟨_, ⟨hnd, _⟩ | ⟨_, ⟨_, _, h3⟩ | ⟨h255, _, b, r, mm, I, rfl, hg, hT, _⟩⟩⟩
  · exact absurd (o1 x (List.mem_of_getElem? h1)) (pcode_bad h3)
  · exact absurd o2 hnd
  · rw [h3] at hn0; cases hn0
  have hs2 := slice_le (row_slice hrow1) hle2
  simp only [true_and]
  refine ⟨fun p' H' => ∃ t : Nat, p'.1.1 = (L.take t).any (mt p) ∧ p'.1.2.1 = (t : Int) ∧ t ≤ L.length ∧ H' = H2, fun p' _ => (L.length - p'.1.2.1).toNat, ⟨0, by simp, rfl, by omega, rfl⟩, ?_⟩
  rintro ⟨⟨is, i, _⟩, _⟩ H3 ⟨t, h1, hi, ht, rfl⟩
  simp only at h1 hi ⊢
  subst h1; subst hi
  refine br (fun q => ?_) fun q => ?_
  · simp only [decide_eq_true_eq] at q
    obtain ⟨x, _, htk, hx⟩ := drop_cons (l := L) (k := t) (by omega)
    obtain ⟨A, e, f0, f1, f2, f3, f4⟩ := pr_fld hs2 (i := t) hx
    subst e
    have hany := any_snoc (p := p) htk
    rw [Int.toNat_natCast, w64 (by omega)]
    refine br (fun q1 => ⟨⟨t + 1, by rw [hany, q1]; rfl, by omega, by omega, trivial⟩, by omega⟩) fun q1 => ?_
    rw [q1, Bool.false_or] at hany
    have hany : (L.take (t + 1)).any (mt p) = (x.id == p.id && (x.x == p.x && x.y == p.y)) := hany
    refine ⟨⟨by omega, by omega⟩, ptr rfl (ptr rfl (ptr rfl ⟨_, f1, br (fun q2 => ?_) fun q2 => ⟨⟨t + 1, ?_, by omega, by omega, trivial⟩, by omega⟩⟩))⟩
    · refine ⟨⟨by omega, by omega⟩, ptr rfl (ptr rfl (ptr rfl ⟨_, f2, br (fun q3 => ?_) fun q3 => ⟨⟨t + 1, ?_, by omega, by omega, trivial⟩, by omega⟩⟩))⟩
      · refine ⟨⟨by omega, by omega⟩, ptr rfl (ptr rfl (ptr rfl ⟨_, f3, ⟨t + 1, ?_, by omega, by omega, trivial⟩, by omega⟩))⟩
        rw [hany, q2, q3]; rfl
      · rw [hany, q2, q3]; rfl
    · rw [hany, q2]; rfl
  · simp only [decide_eq_false_iff_not] at q
    obtain rfl : t = L.length := by omega
    rw [List.take_length]
    have last : ∀ H4, H3 ≤ H4 → Meets prog 42 [.pointer none] H4 fun e H' => ∃ (a : Option Addr) (n c : Nat), e = .returned (.slice a n c) ∧ Meets prog 41 [.pointer none] H' fun e H' => ∃ (a : Option Addr) (n_2 c : Nat), e = .returned (.slice a n_2 c) ∧ R (.returned (.bool (IntKind.i64.wrap ((n : Int) + (n_2 : Int)) == 0))) H' := fun H4 hle4 => by
      refine s_tpts_nil fun v5 c5 H5 hle5 => ⟨_, _, _, rfl, s_tshape_nil fun H6 hle6 => ⟨_, _, _, rfl, ?_⟩⟩
      exact k _ (heap_trans hleH (heap_trans hle4 (heap_trans hle5 hle6)))
    refine s_tdel hg hT hpr (fun hno H4 hle4 => ⟨_, _, rfl, ?_⟩) fun hex b5 r5 m5 I5 H5 _ _ _ hle5 hg5 hT5 => ⟨_, _, rfl, ?_⟩
    · have e1 : L.any (mt p) = false := by
        rw [List.any_eq_false]
        intro x hx
        rw [hno x (sortP_mem.2 hx)]; simp
      rw [e1]
      exact last H4 hle4
    · have e1 : L.any (mt p) = true := by
        obtain ⟨x, hx, hm⟩ := hex
        exact List.any_eq_true.2 ⟨x, sortP_mem.1 hx, hm⟩
      rw [e1]
      exact last H5 hle5
theorem s_ltk {v : Value} {l : List Pt} {p : Pt} (h : SliceAt H v 4 (pts l)) (hl : l.length ≤ 10000000000000) (hp : ∀ p ∈ l, PtR p) (hpr : PtR p) (k : ∀ H', H ≤ H' → R (.returned (.bool true)) H') :
    Meets prog 14 [v, ptV p] H R := by
  obtain ⟨a, m, c, e, hm⟩ := h
  subst e
  have h : SliceAt H (.slice a m c) 4 (pts l) := ⟨a, m, c, rfl, hm⟩
  refine spec_of func14 (by kernel_rfl) (fun t h => by cases h) ?_ (vc_ltk a m c p.id p.x p.y p.data R H) ?_
  · simp [argsR, SV.rep, SegsRep, SC.rep, one]
  unfold nf_ltk
  refine s_alive23 fun H0 hle0 => ⟨_, rfl, br (fun q => by cases q) fun _ => ?_⟩
  obtain ⟨o1, o2, o3, o4⟩ := once_facts hp 30
  have o3 := o3 (by decide)
  refine s_once (slice_le h hle0) (by decide) hl fun v1 H1 hle1 hfr1 hrow1 => ?_
  obtain ⟨a1, c1, rfl⟩ := row_val hrow1
  generalize hL : onceP 30 l = L at *
  have hpl : (pts L).length = L.length := by simp [pts]
  rw [hpl] at hrow1 hfr1 ⊢
  have hle : H ≤ H1 := heap_trans hle0 hle1
  refine ⟨_, _, _, rfl, s_buildR (row_slice hrow1) (by omega) o4 fun ag ng H2 hle2 hB => ⟨_, _, rfl, ?_⟩⟩
  have hleH := heap_trans hle hle2
  refine br (fun _ => k _ hleH) fun q => ?_
  have hn0 : ng = 0 := by simpa using q
  rcases hB with ⟨i, x, h1, _, h3, _⟩ | ⟨_, ⟨hnd, _⟩ | ⟨_, ⟨_, _, h3⟩ | ⟨h255, _, b, r, mm, I, rfl, hg, hT, _⟩⟩⟩
  · exact absurd (o1 x (List.mem_of_getElem? h1)) (pcode_bad h3)
  · exact absurd o2 hnd
  · rw [h3] at hn0; cases hn0
  have bad : ∀ (n : Int) (H3 : Heap), n ≠ 0 → H2 ≤ H3 → ∃ (a : Option Addr) (n_1 : Int), (Ending.returned (.tuple #[.pointer none, vi n])) = .returned (.tuple #[.pointer a, vi n_1]) ∧ (n_1 ≠ 0 ∧ a = none) := fun n H3 h1 h2 => ⟨none, n, rfl, h1, rfl⟩
  refine s_tins hg hT hpr (fun hc => ⟨_, _, rfl, br (fun _ => k _ hleH) fun q => by simp at q; exact absurd q hc⟩) (fun _ _ H3 hle3 => ⟨_, _, rfl, br (fun _ => k _ (heap_trans hleH hle3)) fun q => by cases q⟩) (fun _ _ _ H3 hle3 => ⟨_, _, rfl, br (fun _ => k _ (heap_trans hleH hle3)) fun q => by cases q⟩)
    fun hok hni h255' b3 r3 m3 I3 H3 _ _ _ hle3 hg3 hT3 _ _ => ⟨_, _, rfl, br (fun q => by cases q) fun _ => ?_⟩
  have hrise := hT.lok.rise
  have hcut := cutP_insP hrise hni
  have hmem : p ∈ insP (sortP L) p := by unfold insP; rw [sortP_mem]; simp
  refine s_tdel hg3 hT3 hpr (fun hno => ?_) fun hex b4 r4 m4 I4 H4 _ _ _ hle4 hg4 hT4 => ⟨_, _, rfl, br (fun _ => ?_) fun q => by cases q⟩
  · have := hno p hmem
    simp [mt] at this
  rw [hcut] at hT4
  have hle24 := heap_trans hle3 hle4
  refine s_tshape hg4 hT4 fun v6 H6 hle6 hfr6 hrow6 => ?_
  obtain ⟨a6, c6, rfl⟩ := row_val hrow6
  have hle26 := heap_trans hle24 hle6
  refine ⟨_, _, _, rfl, s_tshape (hg.le hle26) hT fun v7 H7 hle7 hfr7 hrow7 => ?_⟩
  obtain ⟨a7, c7, rfl⟩ := row_val hrow7
  refine ⟨_, _, _, rfl, s_ints (l := shpN 32 (sortP L)) (l' := shpN 32 (sortP L)) (slice_le (row_slice hrow6) hle7) (row_slice hrow7) (by rw [shpN_len]; omega) ⟨_, rfl, ?_⟩⟩
  rw [decide_eq_true rfl]
  have hle27 := heap_trans hle26 hle7
  have hle47 := heap_trans hle6 hle7
  refine br (fun _ => ?_) fun q => by cases q
  refine s_treeids (hg4.le hle47) hT4 fun v8 H8 hle8 hfr8 hnl8 hrow8 => ?_
  obtain ⟨a8, c8, rfl⟩ := row_val hrow8
  refine ⟨_, _, _, rfl, s_treeids (hg.le (heap_trans hle27 hle8)) hT fun v9 H9 hle9 hfr9 hnl9 hrow9 => ?_⟩
  obtain ⟨a9, c9, rfl⟩ := row_val hrow9
  have e8 : (cells (idsOf m4)).length = nds 32 (sortP L) := by rw [List.length_map, hnl8]
  have e9 : (cells (idsOf mm)).length = nds 32 (sortP L) := by rw [List.length_map, hnl9]
  refine ⟨_, _, _, rfl, br (fun _ => ?_) fun q => by rw [e8, e9] at q; simp at q⟩
  have hle29 := heap_trans hle27 (heap_trans hle8 hle9)
  have hle49 := heap_trans hle47 (heap_trans hle8 hle9)
  refine s_treepts (hg4.le hle49) hT4 fun v10 H10 hle10 hfr10 hrow10 => ?_
  obtain ⟨a10, c10, rfl⟩ := row_val hrow10
  refine ⟨_, _, _, rfl, s_treepts (hg.le (heap_trans hle29 hle10)) hT fun v11 H11 hle11 hfr11 hrow11 => ?_⟩
  obtain ⟨a11, c11, rfl⟩ := row_val hrow11
  have hsl := sortP_len L
  refine ⟨_, _, _, rfl, s_points (l := sortP L) (l' := sortP L) (slice_le (row_slice hrow10) hle11) (row_slice hrow11) (by omega) ⟨_, rfl, ?_⟩⟩
  rw [decide_eq_true rfl]
  exact k _ (heap_trans hleH (heap_trans hle29 (heap_trans hle10 hle11)))
end
end Cr

/- TreeKeeps: the law's walk. -/
set_option linter.unusedVariables false
set_option linter.unusedSimpArgs false
namespace Cr
open Go Sx Stb Bt
open Go.Proofs.Try
set_option maxRecDepth 100000
theorem cnt_split (p q : Int → Bool) : ∀ l : List Int, (l.filter p).length = (l.filter fun i => p i && q i).length + (l.filter fun i => p i && !q i).length
  | [] => rfl
  | x :: l => by
    have := cnt_split p q l
    simp only [List.filter_cons]
    cases p x <;> cases q x <;> simp <;> omega
theorem chgL_ones {m m0 : M} (hsub : ∀ i, m0 i ≠ none → m i ≠ none) : ∀ t : Nat, chgL m m0 t = (((List.range t).map fun k : Nat => ((k : Int) + 1)).filter fun i => (m i).isSome && decide (m i ≠ m0 i)).map fun i => (1, i)
  | 0 => rfl
  | t + 1 => by
    rw [chgL_succ, chgL_ones hsub t, List.range_succ, List.map_append, List.filter_append, List.map_append]
    congr 1
    simp only [List.map_cons, List.map_nil]
    generalize ((t : Int) + 1) = i
    unfold chgOf
    by_cases h1 : (m i).isSome = true ∧ m i ≠ m0 i
    · rw [if_pos h1]
      have : ((m i).isSome && decide (m i ≠ m0 i)) = true := by rw [h1.1, decide_eq_true h1.2]; rfl
      simp [List.filter_cons, h1.1, h1.2]
    · rw [if_neg h1, if_neg (fun h => hsub i (fun e => by rw [e] at h; cases h.1) h.2)]
      have : ((m i).isSome && decide (m i ≠ m0 i)) = false := by
        cases e : (m i).isSome with
        | false => rfl
        | true => rw [decide_eq_false fun hn => h1 ⟨e, hn⟩]; rfl
      simp only [List.filter_cons, List.filter_nil]
      generalize ((m i).isSome && decide (m i ≠ m0 i)) = bb at this
      subst this
      rfl
theorem TreeOK.count {m : M} {L : List Pt} {I : List Int} (h : TreeOK m L I) : (numsL.filter fun i => (m i).isSome).length = nds 32 L := by
  have h1 := h.free
  have h2 := cnt_split (fun _ => true) (fun i => (m i).isNone) numsL
  have h3 : (numsL.filter fun _ => true).length = 255 := by rw [List.filter_eq_self.2 fun _ _ => rfl]; simp
  rw [h3] at h2
  simp only [Bool.true_and] at h2
  have e1 : (freeL m).length = (numsL.filter fun i => (m i).isNone).length := rfl
  have e2 : (numsL.filter fun i => !(m i).isNone) = numsL.filter fun i => (m i).isSome := List.filter_congr fun i _ => by cases m i <;> rfl
  rw [e2] at h2
  omega
theorem keeps {m m0 : M} {L L0 : List Pt} {I I0 : List Int} (hT : TreeOK m L I) (hT0 : TreeOK m0 L0 I0) (hI : ∀ i ∈ I0, i ∈ I) {n : Nat} (hC : Chg m0 m n) : (∀ x ∈ chgL m m0 255, x.1 = 1) ∧ nds 32 L0 ≤ nds 32 L ∧ (chgL m m0 255).length ≤ nds 32 L - nds 32 L0 + n := by
  have hsub : ∀ i, m0 i ≠ none → m i ≠ none := fun i hi => (hT.iff i).2 (hI i ((hT0.iff i).1 hi))
  rw [chgL_ones hsub]
  refine ⟨fun x hx => by obtain ⟨i, _, rfl⟩ := List.mem_map.1 hx; rfl, ?_⟩
  rw [List.length_map]
  have c1 := hT.count
  have c0 := hT0.count
  have s1 := cnt_split (fun i => (m i).isSome) (fun i => (m0 i).isSome) numsL
  have e1 : (numsL.filter fun i => (m i).isSome && (m0 i).isSome) = numsL.filter fun i => (m0 i).isSome := List.filter_congr fun i _ => by
    cases e0 : m0 i with
    | none => simp
    | some d =>
      have := hsub i (by rw [e0]; simp)
      cases e : m i with
      | none => exact absurd e this
      | some d => rfl
  rw [e1] at s1
  have s2 := cnt_split (fun i => (m i).isSome && decide (m i ≠ m0 i)) (fun i => (m0 i).isSome) numsL
  have e2 : (numsL.filter fun i => ((m i).isSome && decide (m i ≠ m0 i)) && !(m0 i).isSome) = numsL.filter fun i => (m i).isSome && !(m0 i).isSome := List.filter_congr fun i _ => by
    cases e0 : m0 i with
    | some d => simp
    | none => cases e : m i <;> simp
  rw [e2] at s2
  obtain ⟨C, hCl, hCs⟩ := hC
  have h3 : (numsL.filter fun i => ((m i).isSome && decide (m i ≠ m0 i)) && (m0 i).isSome).length ≤ C.length := by
    refine nodup_len ((numsL_rise.imp fun h => by omega : numsL.Nodup).filter _) fun i hi => ?_
    have hi2 := (List.mem_filter.1 hi).2
    simp only [Bool.and_eq_true, decide_eq_true_eq] at hi2
    by_cases hc : i ∈ C
    · exact hc
    · exfalso
      refine hi2.1.2 (hCs i hc ?_ ?_)
      · intro e; rw [e] at hi2; simp at hi2
      · intro e; rw [e] at hi2; simp at hi2
  show _ ∧ (numsL.filter fun i => (m i).isSome && decide (m i ≠ m0 i)).length ≤ _
  omega
section
variable {R : Ending → Heap → Prop} {H : Heap}
theorem s_tins_nil {p : Pt} (k : ∀ n H', H ≤ H' → R (.returned (.tuple #[.pointer none, vi n])) H') : Meets prog 45 [.pointer none, ptV p] H R := by
  refine spec_of func45 (by kernel_rfl) (fun t h => by cases h) ?_ (vc_tins none p.id p.x p.y p.data R H) ?_
  · simp [argsR, SV.rep, SegsRep, SC.rep, one]
  unfold nf_tins
  refine s_pchk (.inl ⟨_, rfl, br (fun q => k _ _ (heap_refl _)) fun q => ⟨_, none_le _, s_tpts_nil fun v1 c1 H1 hle1 => .inl ⟨keep_none _ _, _, _, _, rfl, ?_⟩⟩⟩)
  have hs : SliceAt H1 (.slice v1 0 c1) 4 (pts []) := ⟨v1, 0, c1, rfl, rfl, Nat.zero_le _, by simp, by simp, by simp⟩
  refine s_find hs (by simp) (fun i hi => by simp at hi) fun _ => .inl ⟨keep_none _ _, _, rfl, br (fun q => by simp at q) fun _ => ?_⟩
  refine spec_of func52 (by kernel_rfl) (fun t h => by cases h) ?_ (vc_gcl none _ H1) ?_
  · simp [argsR, SV.rep, SC.rep, one]
  unfold nf_gcl
  refine s_is_nil ⟨_, rfl, br (fun _ => ?_) fun q => by cases q⟩
  refine .inl ⟨_, rfl, _, none_le _, s_croot (.inl ⟨keep_none _ _, _, _, _, rfl, ?_⟩)⟩
  refine spec_of func78 (by kernel_rfl) (fun t h => by cases h) ?_ (vc_add none 1 0 0 0 p.id p.x p.y p.data _ H1) ?_
  · simp [argsR, SV.rep, SegsRep, SC.rep, one]
  unfold nf_add
  refine spec_of func107 (by kernel_rfl) (fun t h => by cases h) ?_ (vc_gget none 1 _ H1) ?_
  · simp [argsR, SV.rep, SegsRep, SC.rep, one]
  unfold nf_gget
  refine s_get_nil fun v2 H2 hle2 hv2 => ?_
  obtain ⟨a2, n2, c2, rfl, hs2, hk2, hc2⟩ := hv2
  refine .inl ⟨_, a2, n2, c2, _, _, hk2, _, hc2, _, rfl, s_need (fun q => by cases q) fun _ => .inr ⟨_, rfl, .inr ⟨_, rfl, .inr ⟨_, rfl, fin_pan (k _ _ (heap_trans hle1 hle2))⟩⟩⟩⟩
theorem s_lkeep {v : Value} {l : List Pt} {p : Pt} (h : SliceAt H v 4 (pts l)) (hl : l.length ≤ 10000000000000) (hp : ∀ p ∈ l, PtR p) (hpr : PtR p) (k : ∀ H', H ≤ H' → R (.returned (.bool true)) H') :
    Meets prog 12 [v, ptV p] H R := by
  obtain ⟨a, m, c, e, hm⟩ := h
  subst e
  have h : SliceAt H (.slice a m c) 4 (pts l) := ⟨a, m, c, rfl, hm⟩
  refine spec_of func12 (by kernel_rfl) (fun t h => by cases h) ?_ (vc_lkeep a m c p.id p.x p.y p.data R H) ?_
  · simp [argsR, SV.rep, SegsRep, SC.rep, one]
  unfold nf_lkeep
  refine s_alive23 fun H0 hle0 => ⟨_, rfl, br (fun q => by cases q) fun _ => ?_⟩
  obtain ⟨o1, o2, o3, o4⟩ := once_facts hp 30
  have o3 := o3 (by decide)
  refine s_once (slice_le h hle0) (by decide) hl fun v1 H1 hle1 hfr1 hrow1 => ?_
  obtain ⟨a1, c1, rfl⟩ := row_val hrow1
  generalize hL : onceP 30 l = L at *
  have hpl : (pts L).length = L.length := by simp [pts]
  rw [hpl] at hrow1 hfr1 ⊢
  have hle : H ≤ H1 := heap_trans hle0 hle1
  refine ⟨_, _, _, rfl, s_buildR (row_slice hrow1) (by omega) o4 fun ag ng H2 hle2 hB => ⟨_, _, rfl, ?_⟩⟩
  have hleH := heap_trans hle hle2
  rcases hB with ⟨i, x, h1, _, h3, _⟩ | ⟨_, ⟨hnd, _⟩ | ⟨_, ⟨_, rfl, rfl⟩ | ⟨h255, rfl, b, r, mm, I, rfl, hg, hT, hlow⟩⟩⟩
  · exact absurd (o1 x (List.mem_of_getElem? h1)) (pcode_bad h3)
  · exact absurd o2 hnd
  · exact s_tins_nil fun n H3 hle3 => ⟨_, _, rfl, br (fun _ => k _ (heap_trans hleH hle3)) fun q => by cases q⟩
  refine s_tins hg hT hpr (fun hc => ⟨_, _, rfl, br (fun q => by cases q) fun _ => br (fun _ => k _ hleH) fun q => by simp at q; exact absurd q hc⟩) (fun _ _ H3 hle3 => ⟨_, _, rfl, br (fun q => by cases q) fun _ => br (fun _ => k _ (heap_trans hleH hle3)) fun q => by cases q⟩)
    (fun _ _ _ H3 hle3 => ⟨_, _, rfl, br (fun q => by cases q) fun _ => br (fun _ => k _ (heap_trans hleH hle3)) fun q => by cases q⟩)
    fun hok hni h255' b3 r3 m3 I3 H3 _ _ _ hle3 hg3 hT3 hsub hchg => ⟨_, _, rfl, br (fun q => by cases q) fun _ => br (fun q => by cases q) fun _ => ?_⟩
  obtain ⟨q1, q2, q3⟩ := keeps hT3 hT (hsub hlow) hchg
  have hn40 : 32 + nch (sortP L).length ≤ 40 := by
    rw [sortP_len]
    unfold nch; split <;> omega
  refine s_chgd hg3 (hg.le hle3) hT3.dom hT.dom fun v4 H4 hle4 hfr4 hrow4 => ?_
  obtain ⟨a4, c4, rfl⟩ := row_val hrow4
  generalize hE : chgL m3 mm 255 = E at *
  have hel : (ents E).length = E.length := by simp [ents]
  rw [hel] at hrow4 hfr4 ⊢
  refine ⟨_, _, _, rfl, ?_⟩
  simp only [true_and]
  refine ⟨fun p H' => ∃ t : Nat, p.1.1 = (t : Int) ∧ t ≤ E.length ∧ H' = H4, fun p _ => (E.length - p.1.1).toNat, ⟨0, rfl, by omega, rfl⟩, ?_⟩
  rintro ⟨⟨i, _⟩, _⟩ H5 ⟨t, hi, ht, rfl⟩
  simp only at hi ⊢
  subst hi
  have hfr := hT.free
  have hfr3 := hT3.free
  refine br (fun q => ?_) fun q => ?_
  · simp only [decide_eq_true_eq] at q
    have hx : E[t]? = some E[t] := List.getElem?_eq_getElem (by omega)
    have h1 := q1 _ (List.mem_of_getElem? hx)
    obtain ⟨A, e, hsp, g⟩ := slice_get (row_slice hrow4) (i := t) (e := [vi (E[t]).1, vi (E[t]).2]) (by simp [ents, hx])
    subst e
    rw [Int.toNat_natCast, w64 (by omega)]
    refine ⟨⟨by omega, by omega⟩, ptr rfl (ptr rfl (ptr rfl ⟨_, has_one g rfl (by rw [add_spot hsp]), br (fun q => by rw [h1] at q; simp at q) fun _ => ⟨⟨t + 1, by omega, by omega, trivial⟩, by omega⟩⟩))⟩
  · simp only [decide_eq_false_iff_not] at q
    have hle34 := heap_trans hle3 hle4
    refine s_treeids (hg3.le hle4) hT3 fun v6 H6 hle6 hfr6 hnl6 hrow6 => ?_
    obtain ⟨a6, c6, rfl⟩ := row_val hrow6
    refine ⟨_, _, _, rfl, s_treeids (hg.le (heap_trans hle34 hle6)) hT fun v7 H7 hle7 hfr7 hnl7 hrow7 => ?_⟩
    obtain ⟨a7, c7, rfl⟩ := row_val hrow7
    have e6 : (cells (idsOf m3)).length = nds 32 (insP (sortP L) p) := by rw [List.length_map, hnl6]
    have e7 : (cells (idsOf mm)).length = nds 32 (sortP L) := by rw [List.length_map, hnl7]
    rw [e6, e7]
    refine ⟨_, _, _, rfl, ?_⟩
    rw [w64 (k := ((nds 32 (insP (sortP L) p) : Nat) : Int) - ((nds 32 (sortP L) : Nat) : Int)) (by omega), w64 (by omega)]
    refine br (fun _ => ?_) fun q => by simp at q; omega
    rw [decide_eq_true (by omega)]
    exact k _ (heap_trans hleH (heap_trans hle34 (heap_trans hle6 hle7)))
end
end Cr

/- StatsGrids: the law's walk. -/
set_option linter.unusedVariables false
set_option linter.unusedSimpArgs false
namespace Cr
open Go Sx Stb Bt
open Go.Proofs.Try
set_option maxRecDepth 100000
section
variable {R : Ending → Heap → Prop} {H : Heap}
theorem two_wrap {t n : Nat} (hn : n ≤ 4) (ht : t < n) : IntKind.i64.wrap (2 * 2 ^ t) = 2 ^ (t + 1) := by
  have : t = 0 ∨ t = 1 ∨ t = 2 ∨ t = 3 := by omega
  rcases this with rfl | rfl | rfl | rfl <;> decide
theorem sq_wrap {n : Nat} (hn : n ≤ 4) : IntKind.i64.wrap (2 ^ n * 2 ^ n) = ((4 ^ n : Nat) : Int) := by
  rcases five hn with rfl | rfl | rfl | rfl | rfl <;> decide
theorem s_lgrid {v : Value} {l : List Pt} {lv : Int} (h : SliceAt H v 4 (pts l)) (hl : l.length ≤ 10000000000000) (hp : ∀ p ∈ l, PtR p) (k : ∀ H', H ≤ H' → R (.returned (.bool true)) H') :
    Meets prog 3 [v, vi lv] H R := by
  obtain ⟨a, m, c, e, hm⟩ := h
  subst e
  have h : SliceAt H (.slice a m c) 4 (pts l) := ⟨a, m, c, rfl, hm⟩
  have hlm : l.length = m := by simpa [pts] using hm.1
  refine spec_of func3 (by kernel_rfl) (fun t h => by cases h) ?_ (vc_lgrid a m c lv R H) ?_
  · simp [argsR, SV.rep, SC.rep, one]
  unfold nf_lgrid
  obtain ⟨n, hn, hn4⟩ := lv_nat lv
  obtain ⟨g1, g2, g3⟩ := grid_size hn4
  have p0 : (0 : Int) ≤ ((4 ^ n : Nat) : Int) := Int.natCast_nonneg _
  have p1 : ((4 ^ n : Nat) : Int) ≤ 256 := by exact_mod_cast g2
  rw [hn]
  refine s_alive33 fun H0 hle0 => ⟨_, rfl, br (fun q => by cases q) fun _ => ?_⟩
  simp only [true_and]
  refine ⟨fun p H' => ∃ t : Nat, p.1.1 = 2 ^ t ∧ p.1.2.1 = (t : Int) ∧ t ≤ n ∧ H' = H0, fun p _ => (n - p.1.2.1).toNat, ⟨0, rfl, rfl, by omega, rfl⟩, ?_⟩
  rintro ⟨⟨sd, i, _⟩, _⟩ H1 ⟨t, h1, h2, ht, rfl⟩
  simp only at h1 h2 ⊢
  subst h1; subst h2
  refine br (fun q => ?_) fun q => ?_
  · simp only [decide_eq_true_eq] at q
    rw [two_wrap hn4 (by omega), w64 (by omega)]
    exact ⟨⟨t + 1, rfl, by omega, by omega, by trivial⟩, by omega⟩
  simp only [decide_eq_false_iff_not] at q
  obtain rfl : t = n := by omega
  rw [sq_wrap hn4]
  refine ⟨⟨p0, Int.le_trans (Int.mul_le_mul_of_nonneg_right p1 (by decide)) (by decide)⟩, fun p H' => ∃ u : Nat, p.1.1 = cells (gridP t (l.take u)) ∧ p.1.2.1 = (u : Int) ∧ u ≤ m ∧ H' = H1, fun p _ => (m - p.1.2.1).toNat, ⟨0, ?_, rfl, by omega, rfl⟩, ?_⟩
  · rw [Int.toNat_natCast]; simp [gridP, cells]
  rintro ⟨⟨r, i, _⟩, _⟩ H2 ⟨u, h1, h2, hu, rfl⟩
  simp only at h1 h2 ⊢
  subst h1; subst h2
  have h' := slice_le h hle0
  refine br (fun q => ?_) fun q => ?_
  · simp only [decide_eq_true_eq] at q
    obtain ⟨p, hd, htk, hx⟩ := drop_cons (l := l) (k := u) (by omega)
    obtain ⟨A, e, f0, f1, f2, f3, f4⟩ := pr_fld h' (i := u) hx
    subst e
    have hpr := hp p (List.mem_of_getElem? hx)
    have hlt : gx t p < (gridP t (l.take u)).length := by rw [gridP_len]; exact gx_lt hn4 hpr
    have hln : (cells (gridP t (l.take u))).length = (gridP t (l.take u)).length := by simp [cells]
    rw [Int.toNat_natCast]
    refine ⟨⟨by omega, by omega⟩, ptr rfl (ptr rfl (ptr rfl ⟨_, f2, by decide, ⟨by omega, by omega⟩, ptr rfl (ptr rfl (ptr rfl ⟨_, f3, by decide, ?_⟩))⟩))⟩
    rw [law_ix hn4 hpr, Int.toNat_natCast, hln, w64 (k := (u : Int) + 1) (by omega)]
    refine ⟨⟨by omega, by omega⟩, _, cells_get hlt, ⟨by omega, by omega⟩, hlt, ⟨u + 1, ?_, by omega, by omega, by trivial⟩, by omega⟩
    rw [cells_set, htk, gridP_snoc]
    rfl
  · simp only [decide_eq_false_iff_not] at q
    rw [List.take_of_length_le (by omega)]
    refine s_grid h' hl hp hn hn4 fun v1 H3 e1 e2 e3 => ?_
    obtain ⟨a1, c1, rfl⟩ := row_val e3
    refine ⟨a1, _, c1, rfl, fun v2 H4 f1 f2 f3 f4 => ?_⟩
    refine s_ints (slice_le (row_slice e3) f1) (row_slice f4) (by rw [gridP_len]; omega) ⟨_, rfl, _, f4, ?_⟩
    rw [decide_eq_true rfl]
    exact k _ (le_delO (heap_trans hle0 (heap_trans e1 f1)) (fresh_le (heap_trans hle0 e1) f2))
end
end Cr

/- Points that are handed in. -/
set_option linter.unusedVariables false
set_option linter.unusedSimpArgs false
namespace Cr
open Go Sx Stb Bt
open Go.Proofs.Try
set_option maxRecDepth 100000
theorem own : ownKnob Go.Proofs.Try.prog.godebug = none := by kernel_rfl
theorem laidOut : laidOutB Go.Proofs.Try.prog = true := by kernel_rfl
section
variable {H : Type} {enc : TypeId × Value → H} {W : World}
theorem openPt {fuel : Nat} {cs : List Value} {y : DataW H × List MemPlace} (h : DataW.trod enc prog W 0 (fun _ => true) true fuel 28 cs = some y) : ∃ p : Pt, cs = ptC p ∧ PtR p := by
  obtain ⟨y0, y1, y2, y3, n, _, hl, h0, h1, h2, h3⟩ := Go.Joins.trod_struct4 Go.Proofs.Try.underlying28 h
  obtain ⟨a, e0, _, _⟩ := DataW.trod_int Go.Proofs.Try.underlying3 h0
  obtain ⟨b, e1, _, w1⟩ := DataW.trod_int Go.Proofs.Try.underlying26 h1
  obtain ⟨c, e2, _, w2⟩ := DataW.trod_int Go.Proofs.Try.underlying26 h2
  obtain ⟨s, e3, _, _⟩ := DataW.trod_string Go.Proofs.Try.underlying9 h3
  have c4 : prog.cellsOf 28 = 4 := by kernel_rfl
  have c1 : prog.cellsOf 3 = 1 := by kernel_rfl
  have c2 : prog.cellsOf 26 = 1 := by kernel_rfl
  have c3 : prog.cellsOf 9 = 1 := by kernel_rfl
  rw [c4] at hl
  match cs, hl with
  | [q0, q1, q2, q3], _ =>
    simp only [c1, c2, c3, List.drop_zero, List.drop_succ_cons, List.take_succ_cons, List.take_zero] at e0 e1 e2 e3
    cases e0; cases e1; cases e2; cases e3
    refine ⟨⟨a, b, c, s⟩, rfl, ?_⟩
    have r1 : 0 ≤ b ∧ b < 4294967296 := by simp [Lit.wf, IntKind.min, IntKind.max, IntKind.bits, IntKind.signed] at w1; omega
    have r2 : 0 ≤ c ∧ c < 4294967296 := by simp [Lit.wf, IntKind.min, IntKind.max, IntKind.bits, IntKind.signed] at w2; omega
    exact ⟨r1.1, r1.2, r2.1, r2.2⟩
theorem openI {v : Value} {d : DataW H} {ps : List MemPlace} {base : Nat} (hv : Value.okWide prog W .any base 3 v) (h : DataW.Trod enc prog W 0 (fun _ => true) true 3 v d ps) : ∃ a : Int, v = vi a := by
  obtain ⟨n, rfl, _, _, hw⟩ := Go.ChangeShapes.open_int Go.Proofs.Try.underlying3 hv h
  exact ⟨n, rfl⟩
theorem weigh {t : TypeId} {ts : List TypeId} {d : DataW H} {ds : List (DataW H)} {p : Nat → Bool} (h : (DataW.weightsEach prog (t :: ts) (d :: ds)).all p = true) : (d.weights prog t).all p = true ∧ (DataW.weightsEach prog ts ds).all p = true := by
  simp only [DataW.weightsEach, List.all_append, Bool.and_eq_true] at h
  exact h
theorem openPts {v : Value} {d : DataW H} {ps : List MemPlace} {base : Nat} (hv : Value.okWide prog W .any base 22 v) (h : DataW.Trod enc prog W 0 (fun _ => true) true 22 v d ps) :
    ∃ l : List Pt, SliceAt (full W) v 4 (pts l) ∧ (∀ p ∈ l, PtR p) ∧ ((d.weights prog 22).all (· ≤ reachBytes) = true → l.length ≤ 10000000000000) := by
  obtain ⟨a, len, cap, rfl⟩ := Go.WideShapes.okWide_slice Go.Proofs.Try.underlying22 hv
  obtain ⟨fuel, hf⟩ := h
  rcases Go.Deep.open_slice Go.Proofs.Try.underlying22 hf with ⟨e, e2⟩ | ⟨A, ln, cp, m, n, D, Pl, e, hb, hl, hm, hmm, e2, hx⟩
  · cases e
    exact ⟨[], slice_nil _, by simp, by simp⟩
  · cases e
    obtain ⟨rfl, -⟩ := Prod.mk.inj e2
    simp only [if_true] at hmm
    subst hmm
    have hc : prog.cellsOf 28 = 4 := by kernel_rfl
    have hby : prog.bytesOf 28 = 32 := by kernel_rfl
    have pick : ∀ i, ∃ p : Pt, i < len → PtR p ∧ (full W).has (A.add (i * 4)) (ptC p) ∧ A.spot = none := fun i => by
      by_cases hi : i < len
      · obtain ⟨cs', h1, h2⟩ := hx i (by omega)
        rw [hc] at h1
        obtain ⟨p, rfl, hp⟩ := openPt h2
        obtain ⟨_, h3, h4⟩ := World.cells?_some h1
        refine ⟨p, fun _ => ⟨hp, ?_, ?_⟩⟩
        · intro j x hj
          have hj4 : j < 4 := (List.getElem?_eq_some_iff.1 hj).1
          have := h4 j hj4
          rw [hj] at this
          exact this
        · obtain ⟨cs0, k1, k2⟩ := hx 0 (by omega)
          rw [hc] at k1
          obtain ⟨_, k3, k4⟩ := World.cells?_some k1
          have := k4 0 (by omega)
          simp only [Nat.zero_mul, add0] at this
          rw [List.getElem?_eq_getElem (by omega)] at this
          unfold World.cell? at this
          split at this
          · split at this
            · cases this
            · rename_i hs
              simpa using hs
          · cases this
      · exact ⟨default, fun h => absurd h hi⟩
    obtain ⟨f, hf⟩ := Classical.axiomOfChoice pick
    refine ⟨(List.range len).map f, ⟨some A, len, _, rfl, by simp [pts], hl, ?_, ?_, fun i e he => ?_⟩, ?_, fun hw => ?_⟩
    · intro e he
      simp only [pts, List.mem_map] at he
      obtain ⟨p, _, rfl⟩ := he
      rfl
    · intro e he
      simp only [pts, List.mem_map] at he
      obtain ⟨p, _, rfl⟩ := he
      exact ptC_one p
    · simp only [pts, List.getElem?_map] at he
      obtain ⟨p, hp, rfl⟩ := Option.map_eq_some_iff.1 he
      obtain ⟨i', hi', rfl⟩ := Option.map_eq_some_iff.1 hp
      have hlt := (List.getElem?_eq_some_iff.1 hi').1
      have hii : i' = i := by have := (List.getElem?_eq_some_iff.1 hi').2; simp at this; omega
      subst hii
      obtain ⟨_, g1, g2⟩ := hf i' (by simpa using hlt)
      exact ⟨A, rfl, g2, g1⟩
    · intro p hp
      obtain ⟨i, hi, rfl⟩ := List.mem_map.1 hp
      exact (hf i (List.mem_range.1 hi)).1
    · simp only [DataW.weights, Go.Proofs.Try.underlying22, List.all_cons, Bool.and_eq_true, decide_eq_true_eq, List.length_map, List.length_range, hby] at hw
      simp only [List.length_map, List.length_range]
      have := hw.1
      unfold reachBytes at this
      omega
end
end Cr

/- A point, a window, that is handed in. -/
set_option linter.unusedVariables false
set_option linter.unusedSimpArgs false
namespace Cr
open Go Sx Stb Bt
open Go.Proofs.Try
set_option maxRecDepth 100000
section
variable {H : Type} {enc : TypeId × Value → H} {W : World}
theorem openPtV {v : Value} {d : DataW H} {ps : List MemPlace} {base : Nat} (hv : Value.okWide prog W .any base 28 v) (h : DataW.Trod enc prog W 0 (fun _ => true) true 28 v d ps) : ∃ p : Pt, v = ptV p ∧ PtR p := by
  obtain ⟨cs, rfl, _⟩ := Go.WideShapes.okWide_struct Go.Proofs.Try.underlying28 hv
  obtain ⟨fuel, hf⟩ := h
  obtain ⟨p, e, hp⟩ := openPt hf
  refine ⟨p, ?_, hp⟩
  have e2 : cs.toList = ptC p := e
  show Value.agg cs = .agg { toList := ptC p }
  rw [← e2]
end
end Cr
