/- Nodes, counted. -/
import Derived.Test.YtekaopahienmgaaS2
import Derived.Test.YtekaopahienmgaaG8
set_option linter.unusedVariables false
set_option linter.unusedSimpArgs false
namespace Cr
open Go Sx Stb Bt
open Go.Proofs.Try
set_option maxRecDepth 100000
structure Cnt where
  met : Int → Bool
  ls : List Int
  lv : Int
  ot : Int
  fl : List Int
def cntL (g : Addr) (r : Nat) (s : Value) (lv ot : Int) (fl : List Int) : List Value := .pointer (some g) :: .map (some r) :: s :: vi lv :: vi ot :: fl.map vi
/-- A counter stands at b, its map at r; what is in G is as it was. -/
def CntAt (G : Heap) (g : Addr) (b r : Nat) (C : Cnt) (H : Heap) : Prop :=
  G ≤ H ∧ G b = none ∧ G r = none ∧ b ≠ r ∧ (∃ l, MapAt H r .i64 l ∧ ∀ id, getL l id = if C.met id then some (.bool true) else none) ∧ C.fl.length = 5 ∧
    ∃ a n c, H b = some (.cells (cntL g r (.slice a n c) C.lv C.ot C.fl).toArray 100 (0, 0)) ∧ RowAt H (.slice a n c) 3 1 (cells C.ls) ∧ ∀ k, blockOf (.slice a n c) = some k → G k = none ∧ k ≠ b ∧ k ≠ r
def lenAt (H : Heap) (b : Nat) : Nat := match H b with
  | some (.cells c _ _) => match (c[2]? : Option Value) with | some (Value.slice _ n _) => n | _ => 0
  | _ => 0
def padTo (l : List Int) (n : Nat) : List Int := l ++ List.replicate (n - l.length) 0
def lvBump (l : List Int) (lv : Nat) : List Int := (padTo l (lv + 1)).set lv (IntKind.i64.wrap ((padTo l (lv + 1)).getD lv 0 + 1))
theorem cells_at {H : Heap} {b ty : Nat} {L : List Value} (h : H b = some (.cells L.toArray ty (0, 0))) {k : Nat} {x : Value} (hx : L[k]? = some x) : H.has (Addr.add ⟨b, 0, none⟩ k) [x] := has_one (has_cells h) hx rfl
theorem cells_put {H : Heap} {b ty : Nat} {L : List Value} (h : H b = some (.cells L.toArray ty (0, 0))) {k : Nat} (hk : k < L.length) (x : Value) :
    (H (Addr.add ⟨b, 0, none⟩ k).block = some (.cells L.toArray ty (0, 0)) ∧ (Addr.add ⟨b, 0, none⟩ k).spot = none ∧ (Addr.add ⟨b, 0, none⟩ k).off + 1 ≤ L.toArray.size) ∧
    H.upd (Addr.add ⟨b, 0, none⟩ k).block (.cells (writeCells L.toArray (Addr.add ⟨b, 0, none⟩ k).off [x]) ty (0, 0)) = H.upd b (.cells (L.set k x).toArray ty (0, 0)) := by
  rw [add_spot rfl]
  refine ⟨⟨h, rfl, by simp; omega⟩, ?_⟩
  simp [writeCells]
theorem upd_upd (H : Heap) (b : Nat) (o o' : Obj) : (H.upd b o).upd b o' = H.upd b o' := by
  funext x; unfold Heap.upd; split <;> rfl
theorem le_upd {G H : Heap} (h : G ≤ H) {b : Nat} (hb : G b = none) (o : Obj) : G ≤ H.upd b o := fun x o' e => by
  rw [upd_ne _ _ (fun e' => by subst e'; rw [hb] at e; cases e)]; exact h _ _ e
theorem delO_keep {H : Heap} {o : Option Nat} {x : Nat} {ob : Obj} (hn : ∀ k, o = some k → k ≠ x) (h : H x = some ob) : H.delO o x = some ob := by
  cases o with
  | none => exact h
  | some k => show (if x = k then none else H x) = _; rw [if_neg (Ne.symm (hn k rfl))]; exact h
theorem lenAt_cnt {H : Heap} {b : Nat} {g : Addr} {r : Nat} {a : Option Addr} {n c : Nat} {lv ot : Int} {fl : List Int} {ty : Nat} (h : H b = some (.cells (cntL g r (.slice a n c) lv ot fl).toArray ty (0, 0))) : lenAt H b = n := by
  unfold lenAt
  rw [h]
  rfl
section
variable {R : Ending → Heap → Prop} {H : Heap}
theorem CntAt.mono {G : Heap} {g : Addr} {b r : Nat} {C : Cnt} {H H' : Heap} (h : CntAt G g b r C H) (hle : H ≤ H') : CntAt G g b r C H' := by
  obtain ⟨h1, h2, h3, h4, ⟨l, h5, h6⟩, h7, a, n, c, h8, h9, h10⟩ := h
  exact ⟨heap_trans h1 hle, h2, h3, h4, ⟨l, map_same h5 (fun o e => hle _ _ e), h6⟩, h7, a, n, c, hle _ _ h8, row_le h9 (fun b o _ e => hle _ _ e), h10⟩
/-- What is not there, or was met, counts nothing. -/
theorem s_visit_not {G : Heap} {g : Addr} {b r r0 : Nat} {m : Int → Option Nd} {C : Cnt} {id lv : Int} (hC : CntAt G g b r C H) (hg : GroveAt G g r0 m) (hD : Dom m) (hn : m id = none ∨ C.met id = true)
    (k : ∀ H', CntAt G g b r C H' → R (.returned (.tuple #[])) H') : Meets prog 99 [.pointer (some ⟨b, 0, none⟩), vi id, vi lv] H R := by
  refine spec_of func99 (by kernel_rfl) (fun t h => by cases h) ?_ (vc_visit ⟨b, 0, none⟩ id lv R H) ?_
  · simp [argsR, SV.rep, SC.rep, one]
  unfold nf_visit
  have hC0 := hC
  obtain ⟨h1, h2, h3, h4, ⟨l, h5, h6⟩, h7, a, n, c, h8, h9, h10⟩ := hC0
  refine ptr rfl (ptr rfl (ptr rfl ⟨_, cells_at h8 (k := 0) rfl, ?_⟩))
  refine s_get (hg.le h1) (fun d e => Nat.le_trans (hD.few e) (by omega)) fun v H1 hle hv => ?_
  have hC1 := hC.mono hle
  obtain ⟨a', n', c', rfl, hs, hk, hc⟩ := hv
  refine ⟨_, a', n', c', _, _, hk, _, hc, _, rfl, br (fun q => k _ hC1) fun q => ?_⟩
  obtain ⟨d1, d2, d3, d4, ⟨l', d5, d6⟩, d7, a2, n2, c2, d8, d9, d10⟩ := hC1
  rcases hn with hn | hn
  · rw [hn] at q; simp at q
  · have := map_look d5 id (.bool false)
    rw [d6, hn] at this
    exact ptr rfl (ptr rfl (ptr rfl ⟨_, cells_at d8 (k := 1) rfl, true, ⟨_, this⟩, br (fun _ => k _ (hC.mono hle)) fun q => by cases q⟩))
theorem padTo_len (l : List Int) (n : Nat) : (padTo l n).length = max l.length n := by simp [padTo]; omega
theorem padTo_self {l : List Int} {n : Nat} (h : n ≤ l.length) : padTo l n = l := by simp [padTo, show n - l.length = 0 by omega]
theorem padTo_snoc {l : List Int} {n : Nat} (h : l.length < n) : padTo (l ++ [0]) n = padTo l n := by
  unfold padTo
  rw [List.append_assoc]
  congr 1
  rw [show n - l.length = (n - (l ++ [0]).length) + 1 by simp; omega, List.replicate_succ]
  rfl
/-- The levels' row grows as long as it must. -/
theorem CntAt.put {G : Heap} {g : Addr} {b r : Nat} {C : Cnt} {H : Heap} (h : CntAt G g b r C H) (id : Int) : ∃ es clk, (H r = some (.map es clk) ∧ IntKeys .i64 es.toList) ∧
    CntAt G g b r ⟨fun j => j == id || C.met j, C.ls, C.lv, C.ot, C.fl⟩ (H.upd r (mapPut es clk .i64 id (.bool true))) := by
  obtain ⟨h1, h2, h3, h4, ⟨l, h5, h6⟩, h7, a, n, c, h8, h9, h10⟩ := h
  obtain ⟨es, clk, e1, e2⟩ := map_put h5 id (.bool true)
  refine ⟨es, clk, e1, le_upd h1 h3 _, h2, h3, h4, ⟨_, e2, fun j => ?_⟩, h7, a, n, c, ?_, row_le h9 (fun k o e q => ?_), h10⟩
  · rw [getL_putL, h6]
    by_cases e : j = id
    · subst e; simp
    · simp [e]
  · rw [upd_ne _ _ h4]; exact h8
  · rw [upd_ne _ _ (h10 k e).2.2]; exact q
theorem s_visit_leaf {G : Heap} {g : Addr} {b r r0 : Nat} {m : Int → Option Nd} {C : Cnt} {id : Int} {lv : Nat} {d : Nd} (hC : CntAt G g b r C H) (hg : GroveAt G g r0 m) (hD : Dom m) (hd : m id = some d) (hlf : d.leaf = true) (hm : C.met id = false) (hlv : lv ≤ 32) (hls : C.ls.length ≤ 33)
    (k : ∀ H', CntAt G g b r ⟨fun j => j == id || C.met j, lvBump C.ls lv, IntKind.i64.wrap (C.lv + 1), C.ot, C.fl.set d.pts.length (IntKind.i64.wrap (C.fl.getD d.pts.length 0 + 1))⟩ H' →
      Meets prog 99 [.pointer (some ⟨b, 0, none⟩), vi d.next, vi lv] H' fun e H'' => e = .returned (.tuple #[]) ∧ R (.returned (.tuple #[])) H'') : Meets prog 99 [.pointer (some ⟨b, 0, none⟩), vi id, vi lv] H R := by
  refine spec_of func99 (by kernel_rfl) (fun t h => by cases h) ?_ (vc_visit ⟨b, 0, none⟩ id lv R H) ?_
  · simp [argsR, SV.rep, SC.rep, one]
  unfold nf_visit
  have hC0 := hC
  obtain ⟨h1, h2, h3, h4, ⟨l, h5, h6⟩, h7, a, n, c, h8, h9, h10⟩ := hC0
  refine ptr rfl (ptr rfl (ptr rfl ⟨_, cells_at h8 (k := 0) rfl, ?_⟩))
  refine s_get (hg.le h1) (fun d e => Nat.le_trans (hD.few e) (by omega)) fun v H1 hle hv => ?_
  rw [hd] at hv ⊢
  change NdAt H1 v d at hv
  have hC1 := hC.mono hle
  obtain ⟨a', n', c', rfl, hs, hk, hc⟩ := hv
  have hfew := hD.few hd
  have hlen : d.pts.length = n' := by simpa [pts] using (slice_len hs).1
  refine ⟨_, a', n', c', _, _, hk, _, hc, _, rfl, br (fun q => by simp at q) fun q => ?_⟩
  obtain ⟨d1, d2, d3, d4, ⟨l', d5, d6⟩, d7, a2, n2, c2, d8, d9, d10⟩ := hC1
  have hlk := map_look d5 id (.bool false)
  rw [d6, hm] at hlk
  obtain ⟨es, clk, e1, hC2⟩ := (hC.mono hle).put id
  refine ptr rfl (ptr rfl (ptr rfl ⟨_, cells_at d8 (k := 1) rfl, false, ⟨_, hlk⟩, br (fun q => by cases q) fun _ => br (fun q => by simp at q; omega) fun _ => ptr rfl (ptr rfl (ptr rfl ⟨_, cells_at d8 (k := 1) rfl, mapk rfl ⟨es, clk, e1, ?_⟩⟩))⟩))
  simp only [eq_self, true_and]
  refine ⟨fun _ H' => ∃ ls, ls.length ≤ 33 ∧ padTo ls (lv + 1) = padTo C.ls (lv + 1) ∧ CntAt G g b r ⟨fun j => j == id || C.met j, ls, C.lv, C.ot, C.fl⟩ H', fun _ H' => 40 - lenAt H' b, ⟨_, hls, rfl, hC2⟩, ?_⟩
  clear hC2 e1
  rintro ⟨⟩ H2 ⟨ls, hl33, hpad, hC2⟩
  have hC3 := hC2
  obtain ⟨f1, f2, f3, f4, ⟨l3, f5, f6⟩, f7, a3, n3, c3, f8, f9, f10⟩ := hC2
  have hn3 : ls.length = n3 := by simpa [cells] using (row_len f9).1
  refine ptr rfl (ptr rfl (ptr rfl ⟨a3, n3, c3, cells_at f8 (k := 2) rfl, br (fun q => ?_) fun q => ?_⟩))
  · simp only [decide_eq_true_eq] at q
    refine ptr rfl (ptr rfl (ptr rfl ⟨a3, n3, c3, cells_at f8 (k := 2) rfl, _, f9, by simp [cells]; omega, ptr rfl (ptr rfl fun v H3 g1 g2 g3 g4 => ptr rfl ?_)⟩))
    obtain ⟨a4, c4, rfl⟩ := row_val g4
    have keep : ∀ x ob, (∀ k, blockOf (.slice a3 n3 c3) = some k → k ≠ x) → H2 x = some ob → H3 x = some ob := fun x ob h1 h2 => g1 _ _ (delO_keep h1 h2)
    have hb3 := keep b _ (fun k e => (f10 k e).2.1) f8
    have hG3 : G ≤ H3 := fun x ob e => keep x ob (fun k e' => by rintro rfl; rw [(f10 k e').1] at e; cases e) (f1 _ _ e)
    have fresh : ∀ k, blockOf (.slice a4 (List.append (cells ls) [[vi 0]]).length c4) = some k → ∀ x ob, (∀ k, blockOf (.slice a3 n3 c3) = some k → k ≠ x) → H2 x = some ob → k ≠ x := fun k e x ob h1 h2 => by
      rintro rfl
      have := g2 k e
      rw [delO_keep h1 h2] at this; cases this
    obtain ⟨p1, p2⟩ := cells_put hb3 (k := 2) (by simp [cntL]) (.slice a4 (List.append (cells ls) [[vi 0]]).length c4)
    refine ⟨_, _, p1, ?_⟩
    rw [p2]
    have hnb : ∀ k, blockOf (.slice a4 (List.append (cells ls) [[vi 0]]).length c4) = some k → k ≠ b := fun k e => fresh k e b _ (fun k e => (f10 k e).2.1) f8
    have hmap : ∃ es clk, H2 r = some (.map es clk) := by obtain ⟨es, clk, e, _⟩ := f5; exact ⟨es, clk, e⟩
    obtain ⟨es3, clk3, hm3⟩ := hmap
    refine ⟨⟨ls ++ [0], by simp; omega, ?_, le_upd hG3 f2 _, f2, f3, f4, ⟨l3, map_same f5 (fun o e => ?_), f6⟩, f7, a4, _, c4, upd_same _ _ _, ?_, fun k e => ⟨?_, hnb k e, fresh k e r _ (fun k e => (f10 k e).2.2) hm3⟩⟩, ?_⟩
    · rw [padTo_snoc (by omega)]; exact hpad
    · rw [upd_ne _ _ (Ne.symm f4)]; exact keep r o (fun k e => (f10 k e).2.2) e
    · have : cells (ls ++ [0]) = List.append (cells ls) [[vi 0]] := by simp [cells]
      rw [this]
      exact row_le g4 fun k o e q => by rw [upd_ne _ _ (hnb k e)]; exact q
    · cases e' : G k with
      | none => rfl
      | some ob => exact absurd rfl (fresh k e k ob (fun k' e2 e3 => by rw [e3] at e2; rw [(f10 k e2).1] at e'; cases e') (f1 _ _ e'))
    · have e5 : lenAt (Heap.upd H3 b (.cells ((cntL g r (.slice a3 n3 c3) C.lv C.ot C.fl).set 2 (.slice a4 (List.append (cells ls) [[vi 0]]).length c4)).toArray 100 (0, 0))) b = (List.append (cells ls) [[vi 0]]).length :=
        lenAt_cnt (g := g) (r := r) (a := a4) (c := c4) (lv := C.lv) (ot := C.ot) (fl := C.fl) (ty := 100) (upd_same _ _ _)
      show 40 - lenAt _ b < 40 - lenAt H2 b
      rw [lenAt_cnt f8, e5]
      have : (List.append (cells ls) [[vi 0]]).length = ls.length + 1 := by simp [cells]
      omega
  · simp only [decide_eq_false_iff_not] at q
    have hpl : padTo C.ls (lv + 1) = ls := by rw [← hpad, padTo_self (by omega)]
    have hget : ls[lv]? = some (ls.getD lv 0) := by
      have : lv < ls.length := by omega
      simp [this]
    obtain ⟨A, e, g0⟩ := ir_get (row_slice f9) hget
    subst e
    obtain ⟨A', e, cl, r1, r2, r3⟩ := row_store f9 (i := lv) (by omega) (cs := [vi (IntKind.i64.wrap (ls.getD lv 0 + 1))]) rfl (by simp [one])
    cases e
    rw [Int.toNat_natCast]
    refine ptr rfl (ptr rfl (ptr rfl ⟨_, n3, c3, cells_at f8 (k := 2) rfl, ⟨by omega, by omega⟩, ptr rfl (ptr rfl ⟨_, g0, ⟨by omega, by omega⟩, ptr rfl (ptr rfl ⟨cl, _, r1, br (fun _ => ?_) fun q => by rw [hlf] at q; cases q⟩)⟩)⟩))
    have hA : (A.add (lv * 1)).block = A.block := by
      unfold Addr.add; split <;> rfl
    have hnb := f10 A.block rfl
    generalize hH3 : H2.upd (A.add (lv * 1)).block (.cells (writeCells cl (A.add (lv * 1)).off [vi (IntKind.i64.wrap (ls.getD lv 0 + 1))]) 3 (0, 0)) = H3 at r2 r3 ⊢
    have ne : ∀ x, A.block ≠ x → H3 x = H2 x := fun x hx => by rw [← hH3, hA, upd_ne _ _ (Ne.symm hx)]
    have hb3 : H3 b = some (.cells (cntL g r (.slice (some A) n3 c3) C.lv C.ot C.fl).toArray 100 (0, 0)) := by rw [ne _ hnb.2.1]; exact f8
    obtain ⟨p1, p2⟩ := cells_put hb3 (k := 3) (by simp [cntL]) (vi (IntKind.i64.wrap (C.lv + 1)))
    refine ptr rfl (ptr rfl (ptr rfl ⟨_, cells_at hb3 (k := 3) rfl, ptr rfl (ptr rfl (ptr rfl ⟨_, _, p1, ?_⟩))⟩))
    rw [p2]
    have hb4 : (H3.upd b (.cells ((cntL g r (.slice (some A) n3 c3) C.lv C.ot C.fl).set 3 (vi (IntKind.i64.wrap (C.lv + 1)))).toArray 100 (0, 0))) b = _ := upd_same _ _ _
    have hfl : C.fl[d.pts.length]? = some (C.fl.getD d.pts.length 0) := by
      have : d.pts.length < C.fl.length := by omega
      simp [this]
    have hcell : ((cntL g r (.slice (some A) n3 c3) C.lv C.ot C.fl).set 3 (vi (IntKind.i64.wrap (C.lv + 1))))[5 + d.pts.length]? = some (vi (C.fl.getD d.pts.length 0)) := by
      show (Value.pointer (some g) :: .map (some r) :: .slice (some A) n3 c3 :: vi (IntKind.i64.wrap (C.lv + 1)) :: vi C.ot :: C.fl.map vi)[5 + d.pts.length]? = _
      rw [Nat.add_comm]
      simp only [List.getElem?_cons_succ, List.getElem?_map, hfl, Option.map_some]
    obtain ⟨p3, p4⟩ := cells_put hb4 (k := 5 + d.pts.length) (by simp [cntL]; omega) (vi (IntKind.i64.wrap (C.fl.getD d.pts.length 0 + 1)))
    have hadd : Addr.add (Addr.add ⟨b, 0, none⟩ 5) (Int.toNat (n' : Int) * 1) = Addr.add ⟨b, 0, none⟩ (5 + d.pts.length) := by
      rw [Int.toNat_natCast, ← hlen, Nat.mul_one]
      rw [add_spot rfl, add_spot rfl, add_spot rfl]
      simp
    refine ptr rfl (ptr rfl ⟨⟨by omega, by omega⟩, ptr rfl (ptr rfl ⟨C.fl.getD d.pts.length 0, by rw [hadd]; exact cells_at hb4 hcell, ptr rfl (ptr rfl ⟨⟨by omega, by omega⟩, ptr rfl (ptr rfl ⟨_, _, by rw [hadd]; exact p3, ?_⟩)⟩)⟩)⟩)
    rw [hadd, p4, upd_upd]
    refine k _ ⟨le_upd (fun x ob e => ?_) f2 _, f2, f3, f4, ⟨l3, map_same f5 (fun o e => ?_), f6⟩, by simp [f7], some A, n3, c3, ?_, ?_, f10⟩
    · rw [ne x (fun e' => by rw [← e', hnb.1] at e; cases e)]; exact f1 _ _ e
    · rw [upd_ne _ _ (Ne.symm f4), ne _ hnb.2.2]; exact e
    · rw [upd_same]
      have e7 : ∀ w x : Int, ((cntL g r (.slice (some A) n3 c3) C.lv C.ot C.fl).set 3 (vi w)).set (5 + d.pts.length) (vi x) = cntL g r (.slice (some A) n3 c3) w C.ot (C.fl.set d.pts.length x) := fun w x => by
        rw [Nat.add_comm 5]; simp [cntL, List.map_set]
      rw [e7]
    · have e6 : cells (lvBump C.ls lv) = (cells ls).set lv [vi (IntKind.i64.wrap (ls.getD lv 0 + 1))] := by
        unfold lvBump
        rw [hpl, cells_set]
      rw [e6]
      exact row_le r2 fun k o e q => by rw [upd_ne _ _ (f10 k e).2.1]; exact q
theorem s_slev_empty {g : Addr} {r0 : Nat} (hg : GroveAt H g r0 (setM (fun _ => none) 1 ⟨true, [], 0, z4, z4⟩)) (k : ∀ v H', H ≤ H' → SliceAt H' v 1 (cells [1]) → R (.returned v) H') : Meets prog 25 [.pointer (some g)] H R := by
  refine spec_of func25 (by kernel_rfl) (fun t h => by cases h) ?_ (vc_slev (some g) R H) ?_
  · simp [argsR, SV.rep, SC.rep, one]
  unfold nf_slev
  refine spec_of func65 (by kernel_rfl) (fun t h => by cases h) ?_ (vc_sall (some g) _ H) ?_
  · simp [argsR, SV.rep, SC.rep, one]
  unfold nf_sall
  intro r hr b hb
  have hne : b ≠ r := by rintro rfl; rw [upd_same] at hb; cases hb
  rw [upd_ne _ _ hne] at hb
  have hD : Dom (setM (fun _ => none) 1 ⟨true, [], 0, z4, z4⟩) := Dom.none.set ⟨by omega, by omega⟩ (by
    unfold NdOK
    rw [if_pos rfl]
    exact ⟨⟨by simp, by simp, by simp⟩, by simp, by simp, rfl, rfl⟩)
  have hC : CntAt H g b r ⟨fun _ => false, [], 0, 0, [0, 0, 0, 0, 0]⟩ ((H.upd r (.map #[] 0)).upd b (.cells #[.pointer (some g), .map (some r), .slice none 0 0, vi 0, vi 0, vi 0, vi 0, vi 0, vi 0, vi 0] 100 (0, 0))) :=
    ⟨le_upd (le_upd (heap_refl _) hr _) hb _, hb, hr, hne, ⟨[], map_same (map_new H r .i64) (fun o e => by rw [upd_ne _ _ (Ne.symm hne)]; exact e), fun id => rfl⟩, rfl, none, 0, 0, upd_same _ _ _, .inl ⟨rfl, rfl⟩, fun k e => by cases e⟩
  refine s_visit_leaf (lv := 0) (d := ⟨true, [], 0, z4, z4⟩) hC hg hD (by simp [setM]) rfl rfl (by omega) (by simp) fun H1 hC1 => ?_
  refine s_visit_not hC1 hg hD (.inl (by simp [setM])) fun H2 hC2 => ⟨rfl, rfl, ?_⟩
  obtain ⟨f1, f2, f3, f4, _, f7, a3, n3, c3, f8, f9, f10⟩ := hC2
  have e1 : lvBump [] 0 = [1] := by decide
  simp only [e1] at f9
  refine ⟨some g, some r, a3, n3, c3, _, _, _, f7, ⟨b, rfl, f8⟩, fun b1 hb1 => ⟨_, rfl, ptr rfl (ptr rfl (ptr rfl ⟨a3, n3, c3, has_one (k := 2) (has_cells (upd_same _ _ _)) rfl rfl, k _ _ ?_ ?_⟩))⟩⟩
  · intro x ob e
    have hx : b ≠ x := by rintro rfl; rw [f2] at e; cases e
    have h2 : (H2.delO (blockOf (.pointer (some ⟨b, 0, none⟩)))) x = some ob := delO_keep (fun k e => by cases e; exact hx) (f1 _ _ e)
    rw [upd_ne _ _ (fun e' => by subst e'; rw [hb1] at h2; cases h2)]
    exact h2
  · refine row_slice (row_le f9 fun k o e q => ?_)
    have h2 : (H2.delO (blockOf (.pointer (some ⟨b, 0, none⟩)))) k = some o := delO_keep (fun k' e' => by cases e'; exact Ne.symm (f10 k e).2.1) q
    rw [upd_ne _ _ (fun e' => by subst e'; rw [hb1] at h2; cases h2)]
    exact h2
theorem s_alive33 (k : ∀ H', H ≤ H' → R (.returned (.bool true)) H') : Meets prog 18 [] H R := by
  refine spec_of func18 (by kernel_rfl) (fun t h => by cases h) ?_ (vc_alive33 R H) ?_
  · simp [argsR]
  unfold nf_alive33
  refine s_empty fun r b hr hb hne H1 hle hg => ⟨_, rfl, ?_⟩
  refine s_slev_empty hg fun v H2 hle2 hs => ?_
  obtain ⟨a, c, rfl⟩ := slice_val hs
  refine ⟨a, _, c, rfl, fun v' H3 g1 g2 g3 g4 => ?_⟩
  refine s_ints (l := [1]) (l' := [1]) (slice_le hs g1) (row_slice g4) (by simp) ⟨true, by simp, _, g4, ?_⟩
  refine s_grid (l := []) (n := 1) (slice_nil _) (by simp) (by simp) (by decide) (by omega) fun v4 H4 hle4 hb4 hr4 => ?_
  obtain ⟨a4, c4, rfl⟩ := row_val hr4
  refine ⟨a4, _, c4, rfl, ?_⟩
  have : (((List.length (cells (gridP 1 [])) : Nat) : Int) == 4) = true := by decide
  rw [this]
  refine k _ (heap_trans ?_ hle4)
  exact le_delO (heap_trans hle (heap_trans hle2 g1)) (fresh_le (heap_trans hle hle2) g2)
end
end Cr
