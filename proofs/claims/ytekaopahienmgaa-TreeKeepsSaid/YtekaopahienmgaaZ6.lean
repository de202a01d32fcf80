/- Own texts, one behind the other: S7, S8, T2, T3, SxZ, H1, H2, S9, S10, H3, H4, H5. -/
import Derived.Recover
import Derived.Test.YtekaopahienmgaaZ5
/- Nodes, counted: whole trees. -/
set_option linter.unusedVariables false
set_option linter.unusedSimpArgs false
namespace Cr
open Go Sx Stb Bt
open Go.Proofs.Try
set_option maxRecDepth 100000
section
variable {R : Ending → Heap → Prop} {H : Heap}
theorem s_visit_inner {G : Heap} {g : Addr} {b r r0 : Nat} {m : Int → Option Nd} {C : Cnt} {id : Int} {lv : Nat} {d : Nd} (hC : CntAt G g b r C H) (hg : GroveAt G g r0 m) (hD : Dom m) (hd : m id = some d) (hlf : d.leaf = false) (hm : C.met id = false) (hlv : lv ≤ 32) (hls : C.ls.length ≤ 33)
    (I : Nat → Heap → Prop) (k0 : ∀ H', CntAt G g b r ⟨fun j => j == id || C.met j, lvBump C.ls lv, C.lv, IntKind.i64.wrap (C.ot + 1), C.fl⟩ H' → I 0 H')
    (k1 : ∀ q, q < 4 → ∀ H', I q H' → ∀ R', (∀ H'', I (q + 1) H'' → R' (.returned (.tuple #[])) H'') → Meets prog 99 [.pointer (some ⟨b, 0, none⟩), vi (d.kids.getD q 0), vi (lv + 1)] H' R')
    (k2 : ∀ H', I 4 H' → R (.returned (.tuple #[])) H') : Meets prog 99 [.pointer (some ⟨b, 0, none⟩), vi id, vi lv] H R := by
  refine spec_of func99 (by kernel_rfl) (fun t h => by cases h) ?_ (vc_visit ⟨b, 0, none⟩ id lv R H) ?_
  · simp [argsR, SV.rep, SC.rep, one]
  unfold nf_visit
  have hC0 := hC
  obtain ⟨h1, h2, h3, h4, ⟨l, h5, h6⟩, h7, a, n, c, h8, h9, h10⟩ := hC0
  refine ptr rfl (ptr rfl (ptr rfl ⟨_, cells_at h8 (k := 0) rfl, ?_⟩))
  refine s_get (hg.le h1) (fun d e => Nat.le_trans (hD.few e) (by omega)) fun v H1 hle hv => ?_
  rw [hd] at hv ⊢
  change NdAt H1 v d at hv
  have hC1 := hC.mono hle
  obtain ⟨a', n', c', rfl, hs, hk, hc⟩ := hv
  have hfew := hD.few hd
  have hlen : d.pts.length = n' := by simpa [pts] using (slice_len hs).1
  refine ⟨_, a', n', c', _, _, hk, _, hc, _, rfl, br (fun q => by simp at q) fun q => ?_⟩
  obtain ⟨d1, d2, d3, d4, ⟨l', d5, d6⟩, d7, a2, n2, c2, d8, d9, d10⟩ := hC1
  have hlk := map_look d5 id (.bool false)
  rw [d6, hm] at hlk
  obtain ⟨es, clk, e1, hC2⟩ := (hC.mono hle).put id
  refine ptr rfl (ptr rfl (ptr rfl ⟨_, cells_at d8 (k := 1) rfl, false, ⟨_, hlk⟩, br (fun q => by cases q) fun _ => br (fun q => by simp at q; omega) fun _ => ptr rfl (ptr rfl (ptr rfl ⟨_, cells_at d8 (k := 1) rfl, mapk rfl ⟨es, clk, e1, ?_⟩⟩))⟩))
  simp only [eq_self, true_and]
  refine ⟨fun _ H' => ∃ ls, ls.length ≤ 33 ∧ padTo ls (lv + 1) = padTo C.ls (lv + 1) ∧ CntAt G g b r ⟨fun j => j == id || C.met j, ls, C.lv, C.ot, C.fl⟩ H', fun _ H' => 40 - lenAt H' b, ⟨_, hls, rfl, hC2⟩, ?_⟩
  clear hC2 e1
  rintro ⟨⟩ H2 ⟨ls, hl33, hpad, hC2⟩
  have hC3 := hC2
  obtain ⟨f1, f2, f3, f4, ⟨l3, f5, f6⟩, f7, a3, n3, c3, f8, f9, f10⟩ := hC2
  have hn3 : ls.length = n3 := by simpa [cells] using (row_len f9).1
  refine ptr rfl (ptr rfl (ptr rfl ⟨a3, n3, c3, cells_at f8 (k := 2) rfl, br (fun q => ?_) fun q => ?_⟩))
  · simp only [decide_eq_true_eq] at q
    refine ptr rfl (ptr rfl (ptr rfl ⟨a3, n3, c3, cells_at f8 (k := 2) rfl, _, f9, by simp [cells]; omega, ptr rfl (ptr rfl fun v H3 g1 g2 g3 g4 => ptr rfl ?_)⟩))
    obtain ⟨a4, c4, rfl⟩ := row_val g4
    have keep : ∀ x ob, (∀ k, blockOf (.slice a3 n3 c3) = some k → k ≠ x) → H2 x = some ob → H3 x = some ob := fun x ob h1 h2 => g1 _ _ (delO_keep h1 h2)
    have hb3 := keep b _ (fun k e => (f10 k e).2.1) f8
    have hG3 : G ≤ H3 := fun x ob e => keep x ob (fun k e' => by rintro rfl; rw [(f10 k e').1] at e; cases e) (f1 _ _ e)
    have fresh : ∀ k, blockOf (.slice a4 (List.append (cells ls) [[vi 0]]).length c4) = some k → ∀ x ob, (∀ k, blockOf (.slice a3 n3 c3) = some k → k ≠ x) → H2 x = some ob → k ≠ x := fun k e x ob h1 h2 => by
      rintro rfl
      have := g2 k e
      rw [delO_keep h1 h2] at this; cases this
    obtain ⟨p1, p2⟩ := cells_put hb3 (k := 2) (by simp [cntL]) (.slice a4 (List.append (cells ls) [[vi 0]]).length c4)
    refine ⟨_, _, p1, ?_⟩
    rw [p2]
    have hnb : ∀ k, blockOf (.slice a4 (List.append (cells ls) [[vi 0]]).length c4) = some k → k ≠ b := fun k e => fresh k e b _ (fun k e => (f10 k e).2.1) f8
    have hmap : ∃ es clk, H2 r = some (.map es clk) := by obtain ⟨es, clk, e, _⟩ := f5; exact ⟨es, clk, e⟩
    obtain ⟨es3, clk3, hm3⟩ := hmap
    refine ⟨⟨ls ++ [0], by simp; omega, ?_, le_upd hG3 f2 _, f2, f3, f4, ⟨l3, map_same f5 (fun o e => ?_), f6⟩, f7, a4, _, c4, upd_same _ _ _, ?_, fun k e => ⟨?_, hnb k e, fresh k e r _ (fun k e => (f10 k e).2.2) hm3⟩⟩, ?_⟩
    · rw [padTo_snoc (by omega)]; exact hpad
    · rw [upd_ne _ _ (Ne.symm f4)]; exact keep r o (fun k e => (f10 k e).2.2) e
    · have : cells (ls ++ [0]) = List.append (cells ls) [[vi 0]] := by simp [cells]
      rw [this]
      exact row_le g4 fun k o e q => by rw [upd_ne _ _ (hnb k e)]; exact q
    · cases e' : G k with
      | none => rfl
      | some ob => exact absurd rfl (fresh k e k ob (fun k' e2 e3 => by rw [e3] at e2; rw [(f10 k e2).1] at e'; cases e') (f1 _ _ e'))
    · have e5 : lenAt (Heap.upd H3 b (.cells ((cntL g r (.slice a3 n3 c3) C.lv C.ot C.fl).set 2 (.slice a4 (List.append (cells ls) [[vi 0]]).length c4)).toArray 100 (0, 0))) b = (List.append (cells ls) [[vi 0]]).length :=
        lenAt_cnt (g := g) (r := r) (a := a4) (c := c4) (lv := C.lv) (ot := C.ot) (fl := C.fl) (ty := 100) (upd_same _ _ _)
      show 40 - lenAt _ b < 40 - lenAt H2 b
      rw [lenAt_cnt f8, e5]
      have : (List.append (cells ls) [[vi 0]]).length = ls.length + 1 := by simp [cells]
      omega
  · simp only [decide_eq_false_iff_not] at q
    have hpl : padTo C.ls (lv + 1) = ls := by rw [← hpad, padTo_self (by omega)]
    have hget : ls[lv]? = some (ls.getD lv 0) := by
      have : lv < ls.length := by omega
      simp [this]
    obtain ⟨A, e, g0⟩ := ir_get (row_slice f9) hget
    subst e
    obtain ⟨A', e, cl, r1, r2, r3⟩ := row_store f9 (i := lv) (by omega) (cs := [vi (IntKind.i64.wrap (ls.getD lv 0 + 1))]) rfl (by simp [one])
    cases e
    rw [Int.toNat_natCast]
    refine ptr rfl (ptr rfl (ptr rfl ⟨_, n3, c3, cells_at f8 (k := 2) rfl, ⟨by omega, by omega⟩, ptr rfl (ptr rfl ⟨_, g0, ⟨by omega, by omega⟩, ptr rfl (ptr rfl ⟨cl, _, r1, br (fun q => by rw [hlf] at q; cases q) fun _ => ?_⟩)⟩)⟩))
    have hA : (A.add (lv * 1)).block = A.block := by
      unfold Addr.add; split <;> rfl
    have hnb := f10 A.block rfl
    generalize hH3 : H2.upd (A.add (lv * 1)).block (.cells (writeCells cl (A.add (lv * 1)).off [vi (IntKind.i64.wrap (ls.getD lv 0 + 1))]) 3 (0, 0)) = H3 at r2 r3 ⊢
    have ne : ∀ x, A.block ≠ x → H3 x = H2 x := fun x hx => by rw [← hH3, hA, upd_ne _ _ (Ne.symm hx)]
    have hb3 : H3 b = some (.cells (cntL g r (.slice (some A) n3 c3) C.lv C.ot C.fl).toArray 100 (0, 0)) := by rw [ne _ hnb.2.1]; exact f8
    obtain ⟨p1, p2⟩ := cells_put hb3 (k := 4) (by simp [cntL]) (vi (IntKind.i64.wrap (C.ot + 1)))
    refine ptr rfl (ptr rfl (ptr rfl ⟨_, cells_at hb3 (k := 4) rfl, ptr rfl (ptr rfl (ptr rfl ⟨_, _, p1, ?_⟩))⟩))
    rw [p2]
    have hC4 : CntAt G g b r ⟨fun j => j == id || C.met j, lvBump C.ls lv, C.lv, IntKind.i64.wrap (C.ot + 1), C.fl⟩ (H3.upd b (.cells ((cntL g r (.slice (some A) n3 c3) C.lv C.ot C.fl).set 4 (vi (IntKind.i64.wrap (C.ot + 1)))).toArray 100 (0, 0))) := by
      refine ⟨le_upd (fun x ob e => ?_) f2 _, f2, f3, f4, ⟨l3, map_same f5 (fun o e => ?_), f6⟩, f7, some A, n3, c3, upd_same _ _ _, ?_, f10⟩
      · rw [ne x (fun e' => by rw [← e', hnb.1] at e; cases e)]; exact f1 _ _ e
      · rw [upd_ne _ _ (Ne.symm f4), ne _ hnb.2.2]; exact e
      · have e6 : cells (lvBump C.ls lv) = (cells ls).set lv [vi (IntKind.i64.wrap (ls.getD lv 0 + 1))] := by
          unfold lvBump
          rw [hpl, cells_set]
        rw [e6]
        exact row_le r2 fun k o e q => by rw [upd_ne _ _ (f10 k e).2.1]; exact q
    refine ⟨fun p H' => ∃ q : Nat, p.1.1 = (q : Int) ∧ q ≤ 4 ∧ I q H', fun p _ => (4 - p.1.1).toNat, ⟨0, rfl, by omega, k0 _ hC4⟩, ?_⟩
    rintro ⟨⟨i, _⟩, _⟩ H5 ⟨u, hi, hu, hI⟩
    simp only at hi ⊢
    subst hi
    refine br (fun q => ?_) fun q => ?_
    · simp only [decide_eq_true_eq] at q
      rw [Int.toNat_natCast, w64 (k := (lv : Int) + 1) (by omega)]
      refine ⟨⟨by omega, by omega⟩, k1 u (by omega) _ hI _ fun H6 hI6 => ⟨rfl, ⟨u + 1, ?_, by omega, hI6⟩, ?_⟩⟩ <;> rw [w64 (by omega)] <;> omega
    · simp only [decide_eq_false_iff_not] at q
      obtain rfl : u = 4 := by omega
      exact k2 _ hI
def bumpN (C : Cnt) (x : Nat × Int) : Cnt := if x.2 < 0 then ⟨C.met, lvBump C.ls x.1, C.lv, IntKind.i64.wrap (C.ot + 1), C.fl⟩
  else ⟨C.met, lvBump C.ls x.1, IntKind.i64.wrap (C.lv + 1), C.ot, C.fl.set x.2.toNat (IntKind.i64.wrap (C.fl.getD x.2.toNat 0 + 1))⟩
/-- The nodes in the order in which they are met: level, and how full (an inner one: -1). -/
def chV (n : Nat) : List (Nat × Int) := if n ≤ 4 then [(32, (n : Int))] else (32, 4) :: chV (n - 4)
termination_by n
def visN : Nat → List Pt → List (Nat × Int)
  | 0, L => chV L.length
  | h + 1, L => if L.length ≤ 4 then [(31 - h, (L.length : Int))] else (31 - h, -1) :: ((if quarter h 0 L = [] then [] else visN h (quarter h 0 L)) ++ ((if quarter h 1 L = [] then [] else visN h (quarter h 1 L)) ++ ((if quarter h 2 L = [] then [] else visN h (quarter h 2 L)) ++ (if quarter h 3 L = [] then [] else visN h (quarter h 3 L)))))
def Cnt.meet (C : Cnt) (T : List Int) : Cnt := ⟨fun j => decide (j ∈ T) || C.met j, C.ls, C.lv, C.ot, C.fl⟩
def Cnt.after (C : Cnt) (V : List (Nat × Int)) : Cnt := V.foldl bumpN C
theorem bumpN_meet (C : Cnt) (T : List Int) (x : Nat × Int) : bumpN (C.meet T) x = (bumpN C x).meet T := by
  unfold bumpN Cnt.meet
  split <;> rfl
theorem after_meet (T : List Int) : ∀ (V : List (Nat × Int)) (C : Cnt), (C.meet T).after V = (C.after V).meet T
  | [], C => rfl
  | x :: V, C => by
    show ((bumpN (C.meet T) x).after V) = ((bumpN C x).after V).meet T
    rw [bumpN_meet, after_meet T V]
theorem meet_meet (C : Cnt) (T U : List Int) : (C.meet T).meet U = C.meet (T ++ U) := by
  unfold Cnt.meet
  congr 1
  funext j
  simp only [List.mem_append]
  by_cases h1 : j ∈ T <;> by_cases h2 : j ∈ U <;> simp [h1, h2]
theorem lvBump_len {l : List Int} {lv : Nat} (h : l.length ≤ 33) (hl : lv ≤ 32) : (lvBump l lv).length ≤ 33 := by
  unfold lvBump
  rw [List.length_set, padTo_len]
  omega
theorem bumpN_len {C : Cnt} {x : Nat × Int} (h : C.ls.length ≤ 33) (hl : x.1 ≤ 32) : (bumpN C x).ls.length ≤ 33 := by
  unfold bumpN
  split <;> exact lvBump_len h hl
theorem after_len : ∀ {V : List (Nat × Int)} {C : Cnt}, C.ls.length ≤ 33 → (∀ x ∈ V, x.1 ≤ 32) → (C.after V).ls.length ≤ 33
  | [], C, h, _ => h
  | x :: V, C, h, hx => after_len (V := V) (C := bumpN C x) (bumpN_len h (hx x (List.mem_cons_self ..))) fun y hy => hx y (List.mem_cons_of_mem _ hy)
theorem leaf_meet (C : Cnt) (id : Int) (lv : Nat) (n : Nat) : (⟨fun j => j == id || C.met j, lvBump C.ls lv, IntKind.i64.wrap (C.lv + 1), C.ot, C.fl.set n (IntKind.i64.wrap (C.fl.getD n 0 + 1))⟩ : Cnt) = (C.meet [id]).after [(lv, (n : Int))] := by
  show _ = bumpN (C.meet [id]) (lv, (n : Int))
  unfold bumpN Cnt.meet
  rw [if_neg (by simp)]
  have : (fun j => j == id || C.met j) = fun j => decide (j ∈ [id]) || C.met j := by
    funext j
    by_cases e : j = id <;> simp [e]
  rw [this]
  simp only [Int.toNat_natCast]
theorem s_visit_chain {G : Heap} {g : Addr} {b r r0 : Nat} {m : M} (hg : GroveAt G g r0 m) (hD : Dom m) : ∀ (T : List Int) {L : List Pt} {C : Cnt} {id : Int} {H : Heap} {R : Ending → Heap → Prop}, T.head? = some id → ChP m T L → T.Nodup → (∀ j ∈ T, C.met j = false) → C.ls.length ≤ 33 → CntAt G g b r C H →
    (∀ H', CntAt G g b r ((C.meet T).after (chV L.length)) H' → R (.returned (.tuple #[])) H') → Meets prog 99 [.pointer (some ⟨b, 0, none⟩), vi id, vi (32 : Nat)] H R
  | [], L, C, id, H, R, e, hc, _, _, _, _, _ => by cases e
  | [i], L, C, id, H, R, e, hc, hn, hm, hl, hC, k => by
    cases e
    obtain ⟨h4, hd⟩ := hc
    refine s_visit_leaf (lv := 32) hC hg hD hd rfl (hm _ (List.mem_singleton.2 rfl)) (by omega) hl fun H' hC' => ?_
    rw [leaf_meet] at hC'
    refine s_visit_not hC' hg hD (.inl ?_) fun H'' hC'' => ⟨rfl, k _ ?_⟩
    · cases e : m 0 with
      | none => rfl
      | some d => have := (hD 0 d e).1; omega
    · unfold chV
      rw [if_pos h4]
      exact hC''
  | i :: nx :: T, L, C, id, H, R, e, hc, hn, hm, hl, hC, k => by
    cases e
    obtain ⟨h4, hd, hr⟩ := hc
    have hn' := List.nodup_cons.1 hn
    refine s_visit_leaf (lv := 32) hC hg hD hd rfl (hm _ (List.mem_cons_self ..)) (by omega) hl fun H' hC' => ?_
    rw [leaf_meet] at hC'
    refine s_visit_chain hg hD (nx :: T) rfl hr hn'.2 (fun j hj => ?_) ?_ hC' fun H'' hC'' => ⟨rfl, k _ ?_⟩
    · show (decide (j ∈ [i]) || C.met j) = false
      rw [hm j (List.mem_cons_of_mem _ hj)]
      have : j ≠ i := fun e => hn'.1 (e ▸ hj)
      simp [this]
    · exact bumpN_len (C := C.meet [i]) (x := (32, ((L.take 4).length : Int))) hl (Nat.le_refl 32)
    · have e1 : chV L.length = (32, ((L.take 4).length : Int)) :: chV (L.drop 4).length := by
        rw [chV, if_neg (by omega)]
        simp only [List.length_take, List.length_drop]
        rw [show min 4 L.length = 4 by omega]
        rfl
      rw [e1]
      have e2 : ((C.meet (i :: nx :: T)).after ((32, ((L.take 4).length : Int)) :: chV (L.drop 4).length)) = ((((C.meet [i]).after [(32, ((L.take 4).length : Int))]).meet (nx :: T)).after (chV (L.drop 4).length)) := by
        rw [← after_meet, meet_meet]
        rfl
      rw [e2]
      exact hC''
theorem after_met : ∀ (V : List (Nat × Int)) (C : Cnt), (C.after V).met = C.met
  | [], C => rfl
  | x :: V, C => by
    show ((bumpN C x).after V).met = _
    rw [after_met V]
    unfold bumpN
    split <;> rfl
theorem after_app (C : Cnt) (V W : List (Nat × Int)) : C.after (V ++ W) = (C.after V).after W := List.foldl_append ..
theorem inner_meet (C : Cnt) (id : Int) (lv : Nat) : (⟨fun j => j == id || C.met j, lvBump C.ls lv, C.lv, IntKind.i64.wrap (C.ot + 1), C.fl⟩ : Cnt) = (C.meet [id]).after [(lv, -1)] := by
  show _ = bumpN (C.meet [id]) (lv, -1)
  unfold bumpN Cnt.meet
  rw [if_pos (by simp)]
  have : (fun j => j == id || C.met j) = fun j => decide (j ∈ [id]) || C.met j := by
    funext j
    by_cases e : j = id <;> simp [e]
  rw [this]
def JJ (J : Nat → List Int) : Nat → List Int
  | 0 => []
  | q + 1 => JJ J q ++ J q
def VV (h : Nat) (L : List Pt) : Nat → List (Nat × Int)
  | 0 => []
  | q + 1 => VV h L q ++ (if quarter h q L = [] then [] else visN h (quarter h q L))
theorem visN_lv : ∀ (h : Nat) (L : List Pt), ∀ x ∈ visN h L, x.1 ≤ 32
  | 0, L => by
    show ∀ x ∈ chV L.length, x.1 ≤ 32
    generalize L.length = n
    induction n using Nat.strongRecOn with
    | _ n ih =>
      intro x hx
      rw [chV] at hx
      split at hx
      · simp at hx; subst hx; exact Nat.le_refl 32
      · rcases List.mem_cons.1 hx with rfl | hx
        · exact Nat.le_refl 32
        · exact ih (n - 4) (by omega) x hx
  | h + 1, L => by
    intro x hx
    unfold visN at hx
    split at hx
    · simp at hx; subst hx; show 31 - h ≤ 32; omega
    · have key : ∀ q, x ∈ (if quarter h q L = [] then [] else visN h (quarter h q L)) → x.1 ≤ 32 := fun q hq => by
        split at hq
        · cases hq
        · exact visN_lv h _ x hq
      simp only [List.mem_cons, List.mem_append] at hx
      rcases hx with rfl | hx | hx | hx | hx
      · show 31 - h ≤ 32; omega
      · exact key 0 hx
      · exact key 1 hx
      · exact key 2 hx
      · exact key 3 hx
theorem VV_lv (h : Nat) (L : List Pt) : ∀ q, ∀ x ∈ VV h L q, x.1 ≤ 32
  | 0, x, hx => by cases hx
  | q + 1, x, hx => by
    unfold VV at hx
    rcases List.mem_append.1 hx with hx | hx
    · exact VV_lv h L q x hx
    · split at hx
      · cases hx
      · exact visN_lv h _ x hx
theorem s_visit_tree {G : Heap} {g : Addr} {b r r0 : Nat} {m : M} (hg : GroveAt G g r0 m) (hD : Dom m) : ∀ (h : Nat) {L : List Pt} {I : List Int} {C : Cnt} {id : Int} {H : Heap} {R : Ending → Heap → Prop}, h ≤ 32 → TrP m h id L I → I.Nodup → (∀ j ∈ I, C.met j = false) → C.ls.length ≤ 33 → CntAt G g b r C H →
    (∀ H', CntAt G g b r ((C.meet I).after (visN h L)) H' → R (.returned (.tuple #[])) H') → Meets prog 99 [.pointer (some ⟨b, 0, none⟩), vi id, vi ((32 - h : Nat) : Int)] H R := by
  have hm0 : m 0 = none := by
    cases e : m 0 with
    | none => rfl
    | some d => have := (hD 0 d e).1; omega
  intro h
  induction h with
  | zero => intro L I C id H R hh ht hn hm hl hC k; exact s_visit_chain hg hD I ht.1 ht.2 hn hm hl hC k
  | succ h ih =>
    intro L I C id H R hh ht hn hm hl hC k
    have hlv : (32 - (h + 1) : Nat) = 31 - h := by omega
    rw [hlv]
    unfold TrP at ht
    unfold visN at k
    by_cases h4 : L.length ≤ 4
    · rw [if_pos h4] at ht k
      obtain ⟨rfl, _, hd⟩ := ht
      refine s_visit_leaf hC hg hD hd rfl (hm _ (List.mem_singleton.2 rfl)) (by omega) hl fun H' hC' => ?_
      rw [leaf_meet] at hC'
      exact s_visit_not hC' hg hD (.inl hm0) fun H'' hC'' => ⟨rfl, k _ hC''⟩
    · rw [if_neg h4] at ht k
      obtain ⟨ks, cs, J, hd, hk4, hc4, rfl, hJ⟩ := ht
      have hI : id :: (J 0 ++ (J 1 ++ (J 2 ++ J 3))) = id :: JJ J 4 := by simp [JJ]
      rw [hI] at hn hm k
      have hV : (31 - h, (-1 : Int)) :: ((if quarter h 0 L = [] then [] else visN h (quarter h 0 L)) ++ ((if quarter h 1 L = [] then [] else visN h (quarter h 1 L)) ++ ((if quarter h 2 L = [] then [] else visN h (quarter h 2 L)) ++ (if quarter h 3 L = [] then [] else visN h (quarter h 3 L))))) = (31 - h, -1) :: VV h L 4 := by simp [VV]
      rw [hV] at k
      have sub : ∀ q, q < 4 → (JJ J (q + 1)).Sublist (JJ J 4) := fun q hq => by
        have : q = 0 ∨ q = 1 ∨ q = 2 ∨ q = 3 := by omega
        rcases this with rfl | rfl | rfl | rfl
        · simp [JJ]
        · simp [JJ]
        · simp only [JJ]; exact List.sublist_append_left _ _
        · exact List.Sublist.refl _
      refine s_visit_inner (lv := 31 - h) hC hg hD hd rfl (hm _ (List.mem_cons_self ..)) (by omega) hl (fun q H' => CntAt G g b r ((C.meet (id :: JJ J q)).after ((31 - h, -1) :: VV h L q)) H') (fun H' hC' => ?_) (fun q hq H' hC' R' k' => ?_) k
      · rw [inner_meet] at hC'
        exact hC'
      · rcases hJ q hq with ⟨e1, e2, _, e4⟩ | ⟨e1, _, _, e4⟩
        · rw [show (Nd.kids ⟨false, [], 0, ks, cs⟩).getD q 0 = 0 from e2]
          refine s_visit_not hC' hg hD (.inl hm0) fun H'' hC'' => k' _ ?_
          simp only [JJ, VV, e1, e4, if_true, List.append_nil]
          exact hC''
        · have hnd := hn.sublist ((sub q hq).cons_cons id)
          have hnd2 := List.nodup_cons.1 hnd
          have hnd3 := List.nodup_append.1 (show (JJ J q ++ J q).Nodup from hnd2.2)
          have h32 : (((31 - h : Nat) : Int) + 1) = ((32 - h : Nat) : Int) := by omega
          rw [h32]
          refine ih (by omega) e4 hnd3.2.1 (fun j hj => ?_) (after_len (V := (31 - h, -1) :: VV h L q) (C := C.meet (id :: JJ J q)) hl fun x hx => ?_) hC' fun H'' hC'' => k' _ ?_
          · rw [after_met]
            show (decide (j ∈ id :: JJ J q) || C.met j) = false
            have hj4 : j ∈ JJ J (q + 1) := List.mem_append_right _ hj
            rw [hm j (List.mem_cons_of_mem _ ((sub q hq).subset hj4)), Bool.or_false, decide_eq_false_iff_not]
            intro hjm
            rcases List.mem_cons.1 hjm with rfl | hjm
            · exact hnd2.1 hj4
            · exact hnd3.2.2 j hjm j hj rfl
          · rcases List.mem_cons.1 hx with rfl | hx
            · show 31 - h ≤ 32; omega
            · exact VV_lv h L q x hx
          · have e5 : (C.meet (id :: JJ J (q + 1))).after ((31 - h, -1) :: VV h L (q + 1)) = (((C.meet (id :: JJ J q)).after ((31 - h, -1) :: VV h L q)).meet (J q)).after (visN h (quarter h q L)) := by
              rw [← after_meet, meet_meet, ← after_app]
              simp only [JJ, VV, if_neg e1, List.cons_append]
            rw [e5]
            exact hC''
end
end Cr

/- What is told of a tree's nodes. -/
set_option linter.unusedVariables false
set_option linter.unusedSimpArgs false
namespace Cr
open Go Sx Stb Bt
open Go.Proofs.Try
set_option maxRecDepth 100000
def nf_sleaves (g : Option Addr) (R : Ending → Heap → Prop) (H : Heap) : Prop := Meets prog (65 : Nat) [Value.pointer g] H fun (e : Ending) (H' : Nat → Option Obj) ↦ ∃ (a : Option Addr), e = Ending.returned (Value.pointer a) ∧ PtrK a fun (a_1 : Addr) ↦ PtrK (some a_1) fun (a_2 : Addr) ↦ PtrK (some (Addr.add a_2 (3 : Nat))) fun (a_3 : Addr) ↦ ∃ (n : Int), Heap.has H' a_3 [Value.int IntKind.i64 n] ∧ PtrK a fun (a : Addr) ↦ PtrK (some a) fun (a : Addr) ↦ PtrK (some (Addr.add a (4 : Nat))) fun (a : Addr) ↦ ∃ (n_1 : Int), Heap.has H' a [Value.int IntKind.i64 n_1] ∧ R (Ending.returned (Value.tuple { toList := [Value.int IntKind.i64 n, Value.int IntKind.i64 n_1] })) H'
theorem vc_sleaves (g : Option Addr) (R : Ending → Heap → Prop) (H : Heap) : vcFun prog { } f24 [SV.c (SC.v (Value.pointer g))] R H = nf_sleaves g R H := by kernel_rfl

def nf_sfill (g : Option Addr) (R : Ending → Heap → Prop) (H : Heap) : Prop := Meets prog (65 : Nat) [Value.pointer g] H fun (e : Ending) (H' : Nat → Option Obj) ↦ ∃ (a : Option Addr), e = Ending.returned (Value.pointer a) ∧ PtrK a fun (a : Addr) ↦ PtrK (some a) fun (a : Addr) ↦ PtrK (some (Addr.add a (5 : Nat))) fun (a : Addr) ↦ ∃ (xs : List Int), List.length xs = (5 : Nat) ∧ Heap.has H' a (List.append (List.map (Value.int IntKind.i64) xs) (flatD [])) ∧ R (Ending.returned (Value.agg { toList := List.append (List.map (Value.int IntKind.i64) xs) [] })) H'
theorem vc_sfill (g : Option Addr) (R : Ending → Heap → Prop) (H : Heap) : vcFun prog { } f27 [SV.c (SC.v (Value.pointer g))] R H = nf_sfill g R H := by kernel_rfl

section
variable {R : Ending → Heap → Prop} {H : Heap}
def cnt0 : Cnt := ⟨fun _ => false, [], 0, 0, [0, 0, 0, 0, 0]⟩
/-- All of a tree is counted. -/
theorem s_sall {g : Addr} {r0 : Nat} {m : M} {L : List Pt} {I : List Int} (hg : GroveAt H g r0 m) (hD : Dom m) (ht : TrP m 32 1 L I) (hn : I.Nodup)
    (k : ∀ b r H', H ≤ H' → CntAt H g b r ((cnt0.meet I).after (visN 32 L)) H' → R (.returned (.pointer (some ⟨b, 0, none⟩))) H') : Meets prog 65 [.pointer (some g)] H R := by
  refine spec_of func65 (by kernel_rfl) (fun t h => by cases h) ?_ (vc_sall (some g) _ H) ?_
  · simp [argsR, SV.rep, SC.rep, one]
  unfold nf_sall
  intro r hr b hb
  have hne : b ≠ r := by rintro rfl; rw [upd_same] at hb; cases hb
  rw [upd_ne _ _ hne] at hb
  have hC : CntAt H g b r cnt0 ((H.upd r (.map #[] 0)).upd b (.cells #[.pointer (some g), .map (some r), .slice none 0 0, vi 0, vi 0, vi 0, vi 0, vi 0, vi 0, vi 0] 100 (0, 0))) :=
    ⟨le_upd (le_upd (heap_refl _) hr _) hb _, hb, hr, hne, ⟨[], map_same (map_new H r .i64) (fun o e => by rw [upd_ne _ _ (Ne.symm hne)]; exact e), fun id => rfl⟩, rfl, none, 0, 0, upd_same _ _ _, .inl ⟨rfl, rfl⟩, fun k e => by cases e⟩
  refine s_visit_tree hg hD 32 (Nat.le_refl _) ht hn (fun _ _ => rfl) (by simp [cnt0]) hC fun H2 hC2 => ⟨rfl, ?_⟩
  obtain ⟨f1, f2, f3, f4, f5, f7, a3, n3, c3, f8, f9, f10⟩ := hC2
  have e9 : ∀ l : List Value, List.append l [] = l := List.append_nil
  refine ⟨some g, some r, a3, n3, c3, _, _, _, f7, ⟨b, rfl, by simp only [flatD, e9]; exact f8⟩, fun b1 hb1 => ?_⟩
  have keep : ∀ x ob, b ≠ x → H2 x = some ob → (H2.delO (blockOf (.pointer (some ⟨b, 0, none⟩)))) x = some ob := fun x ob hx e => delO_keep (fun k e => by cases e; exact hx) e
  have ne1 : ∀ x ob, b ≠ x → H2 x = some ob → x ≠ b1 := fun x ob hx e e' => by
    have := keep x ob hx e
    rw [e', hb1] at this; cases this
  have kp : ∀ x ob o, b ≠ x → H2 x = some ob → ((H2.delO (blockOf (.pointer (some ⟨b, 0, none⟩)))).upd b1 o) x = some ob := fun x ob o hx e => by
    rw [upd_ne _ _ (ne1 x ob hx e)]; exact keep x ob hx e
  have hbn : ∀ x ob, H x = some ob → b ≠ x := fun x ob e e' => by rw [← e', f2] at e; cases e
  have hb1n : H b1 = none := by
    cases e : H b1 with
    | none => rfl
    | some ob => exact absurd rfl (ne1 b1 ob (hbn _ _ e) (f1 _ _ e))
  obtain ⟨l5, f5, f6⟩ := f5
  obtain ⟨es, clk, hm, _⟩ := id f5
  simp only [e9]
  have hle : ∀ o, H ≤ (H2.delO (blockOf (.pointer (some ⟨b, 0, none⟩)))).upd b1 o := fun o x ob e => kp x ob o (hbn _ _ e) (f1 _ _ e)
  refine k b1 r _ (hle _) ⟨hle _, hb1n, f3, Ne.symm (ne1 r _ f4 hm), ⟨l5, map_same f5 (fun o e => kp r o _ f4 e), f6⟩, f7, a3, n3, c3, upd_same _ _ _, row_le f9 (fun x o e q => kp x o _ (Ne.symm (f10 x e).2.1) q), fun x e => ⟨(f10 x e).1, ?_, (f10 x e).2.2⟩⟩
  rcases f9 with ⟨q1, _⟩ | ⟨b2, o, cap, cc, q1, q2, _⟩
  · rw [q1] at e; cases e
  · rw [q1] at e; cases e
    exact ne1 _ _ (Ne.symm (f10 b2 (by rw [q1]; rfl)).2.1) q2
def cntOf (L : List Pt) : Cnt := cnt0.after (visN 32 L)
theorem cnt_meet (I : List Int) (L : List Pt) : (cnt0.meet I).after (visN 32 L) = (cntOf L).meet I := after_meet I _ _
theorem s_slev {g : Addr} {r0 : Nat} {m : M} {L : List Pt} {I : List Int} (hg : GroveAt H g r0 m) (hD : Dom m) (ht : TrP m 32 1 L I) (hn : I.Nodup) (k : ∀ v H', H ≤ H' → SliceAt H' v 1 (cells (cntOf L).ls) → R (.returned v) H') : Meets prog 25 [.pointer (some g)] H R := by
  refine spec_of func25 (by kernel_rfl) (fun t h => by cases h) ?_ (vc_slev (some g) R H) ?_
  · simp [argsR, SV.rep, SC.rep, one]
  unfold nf_slev
  refine s_sall hg hD ht hn fun b r H1 hle hC => ⟨_, rfl, ?_⟩
  rw [cnt_meet] at hC
  obtain ⟨f1, f2, f3, f4, f5, f7, a3, n3, c3, f8, f9, f10⟩ := hC
  exact ptr rfl (ptr rfl (ptr rfl ⟨a3, n3, c3, cells_at f8 (k := 2) rfl, k _ _ hle (row_slice f9)⟩))
theorem s_sleaves {g : Addr} {r0 : Nat} {m : M} {L : List Pt} {I : List Int} (hg : GroveAt H g r0 m) (hD : Dom m) (ht : TrP m 32 1 L I) (hn : I.Nodup) (k : ∀ H', H ≤ H' → R (.returned (.tuple #[vi (cntOf L).lv, vi (cntOf L).ot])) H') : Meets prog 24 [.pointer (some g)] H R := by
  refine spec_of func24 (by kernel_rfl) (fun t h => by cases h) ?_ (vc_sleaves (some g) R H) ?_
  · simp [argsR, SV.rep, SC.rep, one]
  unfold nf_sleaves
  refine s_sall hg hD ht hn fun b r H1 hle hC => ⟨_, rfl, ?_⟩
  rw [cnt_meet] at hC
  obtain ⟨f1, f2, f3, f4, f5, f7, a3, n3, c3, f8, f9, f10⟩ := hC
  exact ptr rfl (ptr rfl (ptr rfl ⟨_, cells_at f8 (k := 3) rfl, ptr rfl (ptr rfl (ptr rfl ⟨_, cells_at f8 (k := 4) rfl, k _ hle⟩))⟩))
theorem s_sfill {g : Addr} {r0 : Nat} {m : M} {L : List Pt} {I : List Int} (hg : GroveAt H g r0 m) (hD : Dom m) (ht : TrP m 32 1 L I) (hn : I.Nodup) (k : ∀ H', H ≤ H' → (cntOf L).fl.length = 5 → R (.returned (.agg ((cntOf L).fl.map vi).toArray)) H') : Meets prog 27 [.pointer (some g)] H R := by
  refine spec_of func27 (by kernel_rfl) (fun t h => by cases h) ?_ (vc_sfill (some g) R H) ?_
  · simp [argsR, SV.rep, SC.rep, one]
  unfold nf_sfill
  have e9 : ∀ l : List Value, List.append l [] = l := List.append_nil
  refine s_sall hg hD ht hn fun b r H1 hle hC => ⟨_, rfl, ?_⟩
  rw [cnt_meet] at hC
  obtain ⟨f1, f2, f3, f4, f5, f7, a3, n3, c3, f8, f9, f10⟩ := hC
  refine ptr rfl (ptr rfl (ptr rfl ⟨(cntOf L).fl, f7, ?_, ?_⟩))
  · simp only [flatD, e9]
    intro j x hx
    rw [add_spot rfl, add_spot rfl]
    have := has_cells f8 (5 + j) x (by rw [Nat.add_comm]; simp only [cntL, List.getElem?_cons_succ]; exact hx)
    rw [add_spot rfl] at this
    simpa [Nat.add_assoc] using this
  · simp only [e9]
    exact k _ hle f7
end
end Cr

/- Trees of points, plainly: felling, adding, cutting. -/
set_option linter.unusedVariables false
set_option linter.unusedSimpArgs false
namespace Cr
open Go Sx Stb Bt
open Go.Sort (SWO)
/-! ### Points in order -/
theorem srtd_of {L : List Pt} (h : L.Pairwise fun p q => p.id < q.id) : Srtd ltI L := h.imp fun h => by simp; omega
theorem filter_one {α : Type} {f : α → Bool} : ∀ {L : List α}, L.Pairwise (fun p q => ¬ (f p = true ∧ f q = true)) → (L.filter f).length ≤ 1
  | [], _ => by simp
  | x :: L, h => by
    rw [List.pairwise_cons] at h
    rw [List.filter_cons]
    split
    · rename_i hx
      have : L.filter f = [] := List.filter_eq_nil_iff.2 fun y hy hf => h.1 y hy ⟨hx, hf⟩
      rw [this]; simp
    · exact filter_one h.2
theorem perm_one {α : Type} {a b : List α} (h : a.Perm b) (hb : b.length ≤ 1) : a = b := by
  match b, hb with
  | [], _ => exact h.eq_nil
  | [x], _ => exact List.perm_singleton.1 h
theorem sortP_perm {L L' : List Pt} (h : L.Pairwise fun p q => p.id < q.id) (hp : L'.Perm L) : sortP L' = L := by
  refine (isort_eq swo_I (srtd_of h) fun x => ?_).symm
  refine (perm_one (hp.filter (eqv ltI x)) (filter_one (h.imp fun {p q} h => ?_))).symm
  simp only [eqv, Bool.and_eq_true, Bool.not_eq_true', decide_eq_false_iff_not, ltI]
  omega
theorem insR_perm {lt : Pt → Pt → Bool} (x : Pt) : ∀ L : List Pt, (insR lt x L).Perm (x :: L)
  | [] => List.Perm.refl _
  | y :: L => by
    unfold insR
    split
    · exact List.Perm.refl _
    · exact ((insR_perm x L).cons y).trans (List.Perm.swap ..)
theorem isort_perm {lt : Pt → Pt → Bool} (L : List Pt) : (isort lt L).Perm L := by
  suffices H : ∀ (L acc : List Pt), (L.foldl (fun acc x => insR lt x acc) acc).Perm (acc ++ L) by simpa [isort] using H L []
  intro L
  induction L with
  | nil => intro acc; simp
  | cons x L ih =>
    intro acc
    rw [List.foldl_cons]
    refine (ih _).trans ?_
    refine ((insR_perm x acc).append_right L).trans ?_
    exact List.perm_middle.symm
theorem perm_sortP (L : List Pt) : (sortP L).Perm L := isort_perm L
theorem sortP_id {L : List Pt} (h : L.Pairwise fun p q => p.id < q.id) : sortP L = L := sortP_perm h (List.Perm.refl _)
theorem sortP_rise {L : List Pt} (h : (L.map Pt.id).Nodup) : (sortP L).Pairwise fun p q => p.id < q.id := by
  have h1 : Srtd ltI (sortP L) := isort_srtd swo_I L
  have h2 : ((sortP L).map Pt.id).Nodup := ((perm_sortP L).map Pt.id).nodup_iff.2 h
  rw [List.Nodup, List.pairwise_map] at h2
  refine (h1.and h2).imp fun ⟨h1, h2⟩ => ?_
  simp only [decide_eq_false_iff_not] at h1
  omega
theorem rise_nodup {L : List Pt} (h : L.Pairwise fun p q => p.id < q.id) : (L.map Pt.id).Nodup := by
  rw [List.Nodup, List.pairwise_map]
  exact h.imp fun h => by omega
/-- Sorted lists of the same points are one. -/
theorem sortP_eq {L L' : List Pt} (h : (L.map Pt.id).Nodup) (hp : L'.Perm L) : sortP L' = sortP L :=
  sortP_perm (sortP_rise h) (hp.trans (perm_sortP L).symm)
theorem sortP_filter {L : List Pt} {f : Pt → Bool} (h : (L.map Pt.id).Nodup) : (sortP L).filter f = sortP (L.filter f) :=
  (sortP_perm ((sortP_rise h).sublist List.filter_sublist) ((perm_sortP L).symm.filter f)).symm
/-- With a point more. -/
def insP (L : List Pt) (p : Pt) : List Pt := sortP (L ++ [p])
theorem insP_ids {L : List Pt} {p : Pt} (h : L.Pairwise fun p q => p.id < q.id) (hp : p.id ∉ L.map Pt.id) : ((L ++ [p]).map Pt.id).Nodup := by
  rw [List.map_append, List.nodup_append]
  exact ⟨rise_nodup h, by simp, fun a ha b hb => by simp at hb; subst hb; rintro rfl; exact hp ha⟩
theorem quarter_insP {L : List Pt} {p : Pt} (h : L.Pairwise fun p q => p.id < q.id) (hp : p.id ∉ L.map Pt.id) (k q : Nat) : quarter k q (insP L p) = if qt k p = (q : Int) then insP (quarter k q L) p else quarter k q L := by
  unfold insP
  rw [quarter, sortP_filter (insP_ids h hp), List.filter_append]
  by_cases e : qt k p = (q : Int)
  · rw [if_pos e]; simp [List.filter_cons, e]
  · rw [if_neg e]
    have : [p].filter (fun p => qt k p == (q : Int)) = [] := by simp [List.filter_cons, e]
    rw [this, List.append_nil]
    exact sortP_id (h.sublist List.filter_sublist)
theorem insP_len (L : List Pt) (p : Pt) : (insP L p).length = L.length + 1 := by unfold insP; rw [sortP_len]; simp
theorem LOK.ins {L : List Pt} {p : Pt} (h : LOK L) (hp : p.id ∉ L.map Pt.id) (ok : ptOK p) (hr : PtR p) : LOK (insP L p) where
  ok := fun q hq => by
    have := (sortP_mem.1 hq)
    rcases List.mem_append.1 this with hq | hq
    · exact h.ok q hq
    · simp at hq; subst hq; exact ok
  rise := sortP_rise (insP_ids h.rise hp)
  range := fun q hq => by
    have := (sortP_mem.1 hq)
    rcases List.mem_append.1 this with hq | hq
    · exact h.range q hq
    · simp at hq; subst hq; exact hr
/-- Without an Id. -/
def outP (L : List Pt) (id : Int) : List Pt := L.filter fun p => p.id != id
/-! ### Felling -/
def delsM (m : M) (I : List Int) : M := fun i => if i ∈ I then none else m i
inductive FTs (m : M) : List Int → List Pt → List Int → Prop
  | nil : FTs m [] [] []
  | zero {r : List Int} {L : List Pt} {I : List Int} : FTs m r L I → FTs m (0 :: r) L I
  | cons {k : Int} {r : List Int} {d : Nd} {L1 L : List Pt} {I1 I : List Int} : 0 < k → m k = some d → FTs m (d.kids ++ [d.next]) L1 I1 → FTs m r L I → FTs m (k :: r) (d.pts ++ L1 ++ L) (k :: I1 ++ I)
/-- A node and all below it: its points, its nodes. -/
def FT (m : M) (id : Int) (L : List Pt) (I : List Int) : Prop := ∃ d L1 I1, m id = some d ∧ FTs m (d.kids ++ [d.next]) L1 I1 ∧ L = d.pts ++ L1 ∧ I = id :: I1
theorem FTs.congr {m m' : M} {r : List Int} {L : List Pt} {I : List Int} (h : FTs m r L I) : (∀ i ∈ I, m' i = m i) → FTs m' r L I := by
  induction h with
  | nil => exact fun _ => .nil
  | zero _ ih => exact fun e => .zero (ih e)
  | cons hk hd _ _ ih1 ih2 =>
    intro e
    refine .cons hk (by rw [e _ (List.mem_cons_self ..)]; exact hd) (ih1 fun i hi => e i ?_) (ih2 fun i hi => e i ?_)
    · exact List.mem_append_left _ (List.mem_cons_of_mem _ hi)
    · exact List.mem_append_right _ hi
theorem FT.congr {m m' : M} {id : Int} {L : List Pt} {I : List Int} (h : FT m id L I) (e : ∀ i ∈ I, m' i = m i) : FT m' id L I := by
  obtain ⟨d, L1, I1, h1, h2, h3, rfl⟩ := h
  exact ⟨d, L1, I1, by rw [e _ (List.mem_cons_self ..)]; exact h1, h2.congr fun i hi => e i (List.mem_cons_of_mem _ hi), h3, rfl⟩
theorem FTs.one {m : M} {k : Int} {L : List Pt} {I : List Int} (hk : 0 < k) (h : FT m k L I) {r : List Int} {L' : List Pt} {I' : List Int} (h' : FTs m r L' I') : FTs m (k :: r) (L ++ L') (I ++ I') := by
  obtain ⟨d, L1, I1, h1, h2, rfl, rfl⟩ := h
  exact .cons hk h1 h2 h'
theorem ChP_FT {m : M} (hD : Dom m) : ∀ {I : List Int} {L : List Pt}, ChP m I L → ∀ id, I.head? = some id → FT m id L I
  | [id], L, h, _, e => by
    cases e
    refine ⟨_, [], [], h.2, ?_, by simp, rfl⟩
    exact .zero (.zero (.zero (.zero (.zero .nil))))
  | id :: nx :: r, L, h, _, e => by
    cases e
    have ih := ChP_FT hD h.2.2 nx rfl
    refine ⟨_, L.drop 4, nx :: r, h.2.1, ?_, by simp, rfl⟩
    have hn : 0 < nx := by
      obtain ⟨d, _, _, h1, _⟩ := ih
      have := hD nx d h1
      omega
    refine .zero (.zero (.zero (.zero ?_)))
    have := FTs.one hn ih .nil
    simpa using this
theorem four_list {l : List Int} (h : l.length = 4) : l = [l.getD 0 0, l.getD 1 0, l.getD 2 0, l.getD 3 0] := by
  match l, h with
  | [a, b, c, d], _ => rfl
theorem quarters_perm {h : Nat} {L : List Pt} (hr : ∀ p ∈ L, PtR p) : (quarter h 0 L ++ (quarter h 1 L ++ (quarter h 2 L ++ quarter h 3 L))).Perm L := by
  induction L with
  | nil => simp [quarter]
  | cons p L ih =>
    have ih := ih fun q hq => hr q (List.mem_cons_of_mem _ hq)
    have hp := hr p (List.mem_cons_self ..)
    have h4 : qt h p = 0 ∨ qt h p = 1 ∨ qt h p = 2 ∨ qt h p = 3 := by
      unfold qt
      omega
    have e : ∀ q : Nat, quarter h q (p :: L) = if qt h p = (q : Int) then p :: quarter h q L else quarter h q L := fun q => by
      unfold quarter
      rw [List.filter_cons]
      by_cases e : qt h p = (q : Int) <;> simp [e]
    rw [e 0, e 1, e 2, e 3]
    rcases h4 with h4 | h4 | h4 | h4 <;> simp only [h4]
    · simpa using ih
    · simp only [show ¬ ((1 : Int) = ((0 : Nat) : Int)) by omega, show ((1 : Int) = ((1 : Nat) : Int)) by omega, show ¬ ((1 : Int) = ((2 : Nat) : Int)) by omega, show ¬ ((1 : Int) = ((3 : Nat) : Int)) by omega, if_true, if_false]
      exact List.perm_middle.trans (ih.cons p)
    · simp only [show ¬ ((2 : Int) = ((0 : Nat) : Int)) by omega, show ¬ ((2 : Int) = ((1 : Nat) : Int)) by omega, show ((2 : Int) = ((2 : Nat) : Int)) by omega, show ¬ ((2 : Int) = ((3 : Nat) : Int)) by omega, if_true, if_false]
      refine ((List.perm_middle (l₁ := quarter h 1 L)).append_left _).trans ?_
      exact List.perm_middle.trans (ih.cons p)
    · simp only [show ¬ ((3 : Int) = ((0 : Nat) : Int)) by omega, show ¬ ((3 : Int) = ((1 : Nat) : Int)) by omega, show ¬ ((3 : Int) = ((2 : Nat) : Int)) by omega, show ((3 : Int) = ((3 : Nat) : Int)) by omega, if_true, if_false]
      refine (((List.perm_middle (l₁ := quarter h 2 L)).append_left _).append_left _).trans ?_
      refine ((List.perm_middle (l₁ := quarter h 1 L)).append_left _).trans ?_
      exact List.perm_middle.trans (ih.cons p)
theorem TrP_FT {m : M} (hD : Dom m) : ∀ {h : Nat} {id : Int} {L : List Pt} {I : List Int}, (∀ p ∈ L, PtR p) → TrP m h id L I → ∃ L', L'.Perm L ∧ FT m id L' I
  | 0, id, L, I, hr, h => ⟨L, List.Perm.refl _, ChP_FT hD h.2 id h.1⟩
  | n + 1, id, L, I, hr, h => by
    unfold TrP at h
    split at h
    · obtain ⟨rfl, h⟩ := h
      exact ⟨L, List.Perm.refl _, ChP_FT hD h id rfl⟩
    · obtain ⟨ks, cs, J, h1, h2, h3, rfl, h4⟩ := h
      have sub : ∀ q, q < 4 → ∃ L', L'.Perm (quarter n q L) ∧ ∀ {r L2 I2}, FTs m r L2 I2 → FTs m (ks.getD q 0 :: r) (L' ++ L2) (J q ++ I2) := fun q hq => by
        rcases h4 q hq with ⟨e1, e2, _, e4⟩ | ⟨e1, e2, _, e4⟩
        · refine ⟨[], by rw [e1], fun hr => ?_⟩
          rw [e2, e4]; exact .zero hr
        · obtain ⟨L', hp, hf⟩ := TrP_FT hD (fun p hp => hr p ((List.mem_filter.1 hp).1)) e4
          exact ⟨L', hp, fun hr => FTs.one (by omega) hf hr⟩
      obtain ⟨A, pA, fA⟩ := sub 0 (by omega)
      obtain ⟨B, pB, fB⟩ := sub 1 (by omega)
      obtain ⟨D, pD, fD⟩ := sub 2 (by omega)
      obtain ⟨E, pE, fE⟩ := sub 3 (by omega)
      refine ⟨A ++ (B ++ (D ++ E)), (pA.append (pB.append (pD.append pE))).trans (quarters_perm hr), _, A ++ (B ++ (D ++ E)), J 0 ++ (J 1 ++ (J 2 ++ J 3)), h1, ?_, by simp, rfl⟩
      simp only
      rw [four_list h2]
      have := fA (fB (fD (fE (.zero .nil))))
      simpa using this
/-! ### What becomes of a tree -/
theorem freeL_dels {m : M} {I : List Int} (hn : I.Nodup) (hI : ∀ i ∈ I, m i ≠ none) (hr : ∀ i ∈ I, 1 ≤ i ∧ i ≤ 255) : (freeL (delsM m I)).length = (freeL m).length + I.length := by
  have hp : (freeL (delsM m I)).Perm (freeL m ++ I) := by
    refine (List.perm_ext_iff_of_nodup ((freeL_rise _).imp fun h => by omega) ?_).2 fun x => ?_
    · exact List.nodup_append.2 ⟨(freeL_rise _).imp fun h => by omega, hn, fun a ha b hb e => by subst e; exact hI a hb (mem_freeL.1 ha).2.2⟩
    · rw [mem_freeL, List.mem_append, mem_freeL]
      unfold delsM
      by_cases h : x ∈ I
      · simp [h, hr x h]
      · simp [h]
  rw [hp.length_eq, List.length_append]
/-- The numbers A are given up for the numbers B. -/
structure Rpl (m m' : M) (A B : List Int) : Prop where
  same : ∀ i, i ∉ A → i ∉ B → m' i = m i
  gone : ∀ i ∈ A, i ∉ B → m' i = none
  new : ∀ i ∈ B, i ∉ A → m i = none
  nodup : B.Nodup
  there : ∀ i ∈ B, m' i ≠ none
  count : (freeL m').length + B.length = (freeL m).length + A.length
theorem Rpl.trans {m m1 m2 : M} {A B D : List Int} (h : Rpl m m1 A B) (h' : Rpl m1 m2 B D) : Rpl m m2 A D where
  same := fun i ha hd => by
    by_cases hb : i ∈ B
    · rw [h'.gone i hb hd, h.new i hb ha]
    · rw [h'.same i hb hd, h.same i ha hb]
  gone := fun i ha hd => by
    by_cases hb : i ∈ B
    · exact h'.gone i hb hd
    · rw [h'.same i hb hd, h.gone i ha hb]
  new := fun i hd ha => by
    by_cases hb : i ∈ B
    · exact h.new i hb ha
    · rw [← h.same i ha hb]; exact h'.new i hd hb
  nodup := h'.nodup
  there := h'.there
  count := by have := h.count; have := h'.count; omega
theorem Rpl.off {m m' : M} {A B : List Int} (h : Rpl m m' A B) {i : Int} (hi : m i ≠ none) (ha : i ∉ A) : i ∉ B := fun hb => hi (h.new i hb ha)
theorem Rpl.keep {m m' : M} {A B : List Int} (h : Rpl m m' A B) {i : Int} (hi : m i ≠ none) (ha : i ∉ A) : m' i = m i := h.same i ha (h.off hi ha)
theorem Rpl.fresh {m : M} {k : Int} {r : List Int} {d : Nd} (hf : freeL m = k :: r) : Rpl m (setM m k d) [] [k] where
  same := fun i _ hi => setM_ne (by simpa using hi)
  gone := fun i hi => by cases hi
  new := fun i hi _ => by simp at hi; subst hi; exact (take_tail hf).1
  nodup := by simp
  there := fun i hi => by simp at hi; subst hi; rw [setM_same]; simp
  count := by rw [freeL_take hf, hf]; simp
theorem Rpl.drop {m : M} {k : Int} (h : m k ≠ none) (hr : 1 ≤ k ∧ k ≤ 255) : Rpl m (delM m k) [k] [] where
  same := fun i hi _ => by unfold delM; rw [if_neg (by simpa using hi)]
  gone := fun i hi _ => by simp at hi; subst hi; simp [delM]
  new := fun i hi => by cases hi
  nodup := by simp
  there := fun i hi => by cases hi
  count := by
    have e : delM m k = delsM m [k] := by funext i; simp [delM, delsM]
    rw [e, freeL_dels (by simp) (fun i hi => by simp at hi; subst hi; exact h) (fun i hi => by simp at hi; subst hi; exact hr)]
    simp
/-- Below numbers that are free there are just nodes. -/
def Low (m : M) : Prop := ∀ i j, m i ≠ none → j ∈ freeL m → i < j
/-- At most so many nodes are other ones. -/
def Chg (m m' : M) (n : Nat) : Prop := ∃ C : List Int, C.length ≤ n ∧ ∀ i, i ∉ C → m i ≠ none → m' i ≠ none → m' i = m i
theorem nch_mono {a b : Nat} (h : a ≤ b) : nch a ≤ nch b := by
  unfold nch
  split <;> split <;> omega
theorem nds_mono : ∀ {h : Nat} {L L' : List Pt}, L.Sublist L' → nds h L ≤ nds h L'
  | 0, L, L', hs => nch_mono hs.length_le
  | h + 1, L, L', hs => by
    have hl := hs.length_le
    have sub : ∀ q, nq (nds h) (quarter h q L) ≤ nq (nds h) (quarter h q L') := fun q => by
      have hq : (quarter h q L).Sublist (quarter h q L') := hs.filter _
      by_cases e : quarter h q L = []
      · rw [e, nq_nil]; exact Nat.zero_le _
      · have e' : quarter h q L' ≠ [] := fun e' => by rw [e'] at hq; exact e (List.sublist_nil.1 hq)
        rw [nq_some e, nq_some e']
        exact nds_mono hq
    unfold nds
    split
    · split <;> omega
    · rw [if_neg (by omega)]
      have := sub 0; have := sub 1; have := sub 2; have := sub 3
      omega
theorem sub_insP {L : List Pt} {p : Pt} (h : L.Pairwise fun p q => p.id < q.id) (hp : p.id ∉ L.map Pt.id) : L.Sublist (insP L p) := by
  have e : L = (insP L p).filter fun q => q.id != p.id := by
    unfold insP
    rw [sortP_filter (insP_ids h hp), List.filter_append]
    have e1 : L.filter (fun q => q.id != p.id) = L := List.filter_eq_self.2 fun q hq => by
      simp only [bne_iff_ne, ne_eq]
      intro e
      exact hp (e ▸ List.mem_map_of_mem hq)
    have e2 : [p].filter (fun q => q.id != p.id) = [] := by simp [List.filter_cons]
    rw [e1, e2, List.append_nil, sortP_id h]
  conv => lhs; rw [e]
  exact List.filter_sublist
theorem TrP_there {m : M} : ∀ {h : Nat} {id : Int} {L : List Pt} {I : List Int}, TrP m h id L I → ∀ i ∈ I, m i ≠ none
  | 0, id, L, I, h => by
    have : ∀ {I : List Int} {L : List Pt}, ChP m I L → ∀ i ∈ I, m i ≠ none := by
      intro I
      induction I with
      | nil => intro L h; exact h.elim
      | cons a r ih =>
        intro L h i hi
        cases r with
        | nil => simp at hi; subst hi; rw [h.2]; simp
        | cons b r =>
          rcases List.mem_cons.1 hi with rfl | hi
          · rw [h.2.1]; simp
          · exact ih h.2.2 i hi
    exact this h.2
  | n + 1, id, L, I, h => by
    unfold TrP at h
    split at h
    · obtain ⟨rfl, h⟩ := h
      intro i hi
      simp at hi; subst hi
      rw [h.2]; simp
    · obtain ⟨ks, cs, J, h1, h2, h3, rfl, h4⟩ := h
      intro i hi
      rcases List.mem_cons.1 hi with rfl | hi
      · rw [h1]; simp
      · have sub : ∀ q, q < 4 → i ∈ J q → m i ≠ none := fun q hq hm => by
          rcases h4 q hq with ⟨_, _, _, e⟩ | ⟨_, _, _, e⟩
          · rw [e] at hm; cases hm
          · exact TrP_there e i hm
        simp only [List.mem_append] at hi
        rcases hi with hi | hi | hi | hi
        · exact sub 0 (by omega) hi
        · exact sub 1 (by omega) hi
        · exact sub 2 (by omega) hi
        · exact sub 3 (by omega) hi
theorem nodup_len {α : Type} [DecidableEq α] : ∀ {a b : List α}, a.Nodup → (∀ x ∈ a, x ∈ b) → a.length ≤ b.length
  | [], b, _, _ => Nat.zero_le _
  | x :: a, b, hn, h => by
    rw [List.nodup_cons] at hn
    have hx := h x (List.mem_cons_self ..)
    have := nodup_len (b := b.erase x) hn.2 fun y hy => (List.mem_erase_of_ne (by rintro rfl; exact hn.1 hy)).2 (h y (List.mem_cons_of_mem _ hy))
    rw [List.length_erase_of_mem hx] at this
    have := List.length_pos_of_mem hx
    simp only [List.length_cons]; omega
/-- A tree's nodes but the first one go; it's grown anew, of other points. -/
theorem regrow {m : M} {h : Nat} {id : Int} {L : List Pt} {T : List Int} (L' : List Pt) (ht : TrP m h id L (id :: T)) (hn : (id :: T).Nodup) (hD : Dom m) :
    (nds h L' ≤ nds h L + (freeL m).length → ∃ m' T', growF h (delsM m T) id L' = some m' ∧ TrP m' h id L' (id :: T') ∧ Rpl m m' (id :: T) (id :: T') ∧ (Low m → nds h L ≤ nds h L' → ∀ i ∈ id :: T, i ∈ id :: T') ∧ Chg m m' (nds h L)) ∧
      (nds h L + (freeL m).length < nds h L' → growF h (delsM m T) id L' = none) := by
  have hlen := TrP_len ht
  simp only [List.length_cons] at hlen
  have hth := TrP_there ht
  obtain ⟨hidT, hnT⟩ := List.nodup_cons.1 hn
  have hid : delsM m T id ≠ none := by
    unfold delsM; rw [if_neg hidT]; exact hth id (List.mem_cons_self ..)
  have hr : ∀ i ∈ T, 1 ≤ i ∧ i ≤ 255 := fun i hi => by
    cases e : m i with
    | none => exact absurd e (hth i (List.mem_cons_of_mem _ hi))
    | some d => have := hD i d e; exact ⟨this.1, this.2.1⟩
  have hfl := freeL_dels hnT (fun i hi => hth i (List.mem_cons_of_mem _ hi)) hr
  have hp := nds_pos h L'
  obtain ⟨g1, g2⟩ := growF_spec h (delsM m T) id L' hid
  rw [hfl] at g1 g2
  refine ⟨fun hle => ?_, fun hlt => g2 (by omega)⟩
  obtain ⟨m1, d, I, e1, e2, e3, e4⟩ := g1 (by omega)
  have hidI : id ∉ I := e2.off hid
  have hid1 : m1 id ≠ none := by rw [e2.same id hidI]; exact hid
  refine ⟨_, I, e1, e4, ⟨fun i ha hb => ?_, fun i ha hb => ?_, fun i hb ha => ?_, List.nodup_cons.2 ⟨hidI, e2.nodup⟩, TrP_there e4, ?_⟩, fun hlow hmono i hi => ?_, id :: T, by simp; omega, fun i hi h1 h2 => ?_⟩
  · simp only [List.mem_cons, not_or] at ha hb
    rw [setM_ne hb.1, e2.same i hb.2]
    unfold delsM; rw [if_neg ha.2]
  · simp only [List.mem_cons, not_or] at ha hb
    rw [setM_ne hb.1, e2.same i hb.2]
    unfold delsM; rw [if_pos (by rcases ha with ha | ha; exact absurd ha hb.1; exact ha)]
  · simp only [List.mem_cons, not_or] at ha hb
    have := e2.was (hb.resolve_left ha.1)
    unfold delsM at this
    rwa [if_neg ha.2] at this
  · rw [freeL_set hid1, e2.free, List.length_drop, hfl]
    have := e2.few
    rw [hfl] at this
    simp only [List.length_cons]
    omega
  · rcases List.mem_cons.1 hi with rfl | hi
    · exact List.mem_cons_self ..
    · refine List.mem_cons_of_mem _ ((e2.mem i).2 ?_)
      -- the least ones that are free are those that were given up
      refine Classical.byContradiction fun hno => ?_
      have hF := freeL_rise (delsM m T)
      have hiF : i ∈ freeL (delsM m T) := mem_freeL.2 ⟨(hr i hi).1, (hr i hi).2, by unfold delsM; rw [if_pos hi]⟩
      have hsub : ∀ x ∈ (freeL (delsM m T)).take I.length, x ∈ T ∧ x ≠ i := fun x hx => by
        have hxi : x < i := by
          rw [← List.take_append_drop I.length (freeL (delsM m T))] at hiF hF
          rcases List.mem_append.1 hiF with h | h
          · exact absurd h hno
          · exact (List.pairwise_append.1 hF).2.2 x hx i h
        refine ⟨Classical.byContradiction fun hxT => ?_, by omega⟩
        have hxF := mem_freeL.1 (List.mem_of_mem_take hx)
        unfold delsM at hxF
        rw [if_neg hxT] at hxF
        have := hlow i x (hth i (List.mem_cons_of_mem _ hi)) (mem_freeL.2 hxF)
        omega
      have hsp : ((freeL (delsM m T)).take I.length).length ≤ (T.erase i).length := by
        refine nodup_len ?_ fun x hx => ?_
        · exact ((freeL_rise _).imp fun h => by omega : (freeL (delsM m T)).Nodup).sublist (List.take_sublist _ _)
        · exact (List.mem_erase_of_ne (hsub x hx).2).2 (hsub x hx).1
      rw [List.length_take, List.length_erase_of_mem hi] at hsp
      have := e2.few
      have hTp : 0 < T.length := List.length_pos_of_mem hi
      omega
  · have hiI : i ∉ I := fun hI => by
      have := e2.was hI
      unfold delsM at this
      split at this
      · rename_i hT; exact hi (List.mem_cons_of_mem _ hT)
      · exact h1 this
    simp only [List.mem_cons, not_or] at hi
    rw [setM_ne hi.1, e2.same i hiI]
    unfold delsM; rw [if_neg hi.2]
end Cr

/- Trees of points, plainly: one quarter becomes another one. -/
set_option linter.unusedVariables false
set_option linter.unusedSimpArgs false
namespace Cr
open Go Sx Stb Bt
open Go.Sort (SWO)
theorem mem_four_iff {α : Type} {J : Nat → List α} {x : α} : x ∈ J 0 ++ (J 1 ++ (J 2 ++ J 3)) ↔ ∃ q, q < 4 ∧ x ∈ J q := by
  constructor
  · intro h
    simp only [List.mem_append] at h
    rcases h with h | h | h | h
    · exact ⟨0, by omega, h⟩
    · exact ⟨1, by omega, h⟩
    · exact ⟨2, by omega, h⟩
    · exact ⟨3, by omega, h⟩
  · rintro ⟨q, hq, h⟩
    exact mem_four hq h
theorem nodup_four {α : Type} {J : Nat → List α} : (J 0 ++ (J 1 ++ (J 2 ++ J 3))).Nodup ↔ (∀ q, q < 4 → (J q).Nodup) ∧ ∀ i j, i < 4 → j < 4 → i ≠ j → ∀ x ∈ J i, x ∉ J j := by
  simp only [List.nodup_append, List.mem_append]
  constructor
  · rintro ⟨h0, ⟨h1, ⟨h2, h3, h23⟩, h123⟩, h0123⟩
    refine ⟨fun q hq => ?_, fun i j hi hj hne x hx hy => ?_⟩
    · match q, hq with
      | 0, _ => exact h0
      | 1, _ => exact h1
      | 2, _ => exact h2
      | 3, _ => exact h3
    · match i, j, hi, hj, hne, hx, hy with
      | 0, 1, _, _, _, hx, hy => exact h0123 x hx x (.inl hy) rfl
      | 0, 2, _, _, _, hx, hy => exact h0123 x hx x (.inr (.inl hy)) rfl
      | 0, 3, _, _, _, hx, hy => exact h0123 x hx x (.inr (.inr hy)) rfl
      | 1, 0, _, _, _, hx, hy => exact h0123 x hy x (.inl hx) rfl
      | 1, 2, _, _, _, hx, hy => exact h123 x hx x (.inl hy) rfl
      | 1, 3, _, _, _, hx, hy => exact h123 x hx x (.inr hy) rfl
      | 2, 0, _, _, _, hx, hy => exact h0123 x hy x (.inr (.inl hx)) rfl
      | 2, 1, _, _, _, hx, hy => exact h123 x hy x (.inl hx) rfl
      | 2, 3, _, _, _, hx, hy => exact h23 x hx x hy rfl
      | 3, 0, _, _, _, hx, hy => exact h0123 x hy x (.inr (.inr hx)) rfl
      | 3, 1, _, _, _, hx, hy => exact h123 x hy x (.inr hx) rfl
      | 3, 2, _, _, _, hx, hy => exact h23 x hy x hx rfl
      | 0, 0, _, _, hne, _, _ | 1, 1, _, _, hne, _, _ | 2, 2, _, _, hne, _, _ | 3, 3, _, _, hne, _, _ => exact absurd rfl hne
  · rintro ⟨h1, h2⟩
    refine ⟨h1 0 (by omega), ⟨h1 1 (by omega), ⟨h1 2 (by omega), h1 3 (by omega), fun a ha b hb e => ?_⟩, fun a ha b hb e => ?_⟩, fun a ha b hb e => ?_⟩
    · subst e; exact h2 2 3 (by omega) (by omega) (by omega) a ha hb
    · subst e
      rcases hb with hb | hb
      · exact h2 1 2 (by omega) (by omega) (by omega) a ha hb
      · exact h2 1 3 (by omega) (by omega) (by omega) a ha hb
    · subst e
      rcases hb with hb | hb | hb
      · exact h2 0 1 (by omega) (by omega) (by omega) a ha hb
      · exact h2 0 2 (by omega) (by omega) (by omega) a ha hb
      · exact h2 0 3 (by omega) (by omega) (by omega) a ha hb
theorem four_eq {q : Nat} (h : q < 4) : q = 0 ∨ q = 1 ∨ q = 2 ∨ q = 3 := by omega
theorem SubP_there {m : M} {h : Nat} {k c : Int} {L : List Pt} {I : List Int} (hs : SubP (TrP m h) k c L I) : ∀ i ∈ I, m i ≠ none := by
  rcases hs with ⟨_, _, _, rfl⟩ | ⟨_, _, _, h⟩
  · intro i hi; cases hi
  · exact TrP_there h
theorem nds_diff {h : Nat} {L L' : List Pt} {q : Nat} (hq : q < 4) (hl : 4 < L.length) (hl' : 4 < L'.length) (he : ∀ j, j < 4 → j ≠ q → quarter h j L' = quarter h j L) : nds (h + 1) L' + nq (nds h) (quarter h q L) = nds (h + 1) L + nq (nds h) (quarter h q L') := by
  unfold nds
  rw [if_neg (by omega), if_neg (by omega)]
  rcases four_eq hq with rfl | rfl | rfl | rfl
  · rw [he 1 (by omega) (by omega), he 2 (by omega) (by omega), he 3 (by omega) (by omega)]; omega
  · rw [he 0 (by omega) (by omega), he 2 (by omega) (by omega), he 3 (by omega) (by omega)]; omega
  · rw [he 0 (by omega) (by omega), he 1 (by omega) (by omega), he 3 (by omega) (by omega)]; omega
  · rw [he 0 (by omega) (by omega), he 1 (by omega) (by omega), he 2 (by omega) (by omega)]; omega
theorem inner_upd {m m' : M} {h : Nat} {id : Int} {L L' : List Pt} {ks cs : List Int} {J : Nat → List Int} {q : Nat} {B : List Int} {k' c' : Int} {n : Nat} (h1 : m id = some ⟨false, [], 0, ks, cs⟩) (hk : ks.length = 4) (hc : cs.length = 4) (hn : (id :: (J 0 ++ (J 1 ++ (J 2 ++ J 3)))).Nodup)
    (hJ : ∀ q : Nat, q < 4 → SubP (TrP m h) (ks.getD q 0) (cs.getD q 0) (quarter h q L) (J q)) (hq : q < 4) (hR : Rpl m m' (J q) B) (hS : SubP (TrP m' h) k' c' (quarter h q L') B) (he : ∀ j, j < 4 → j ≠ q → quarter h j L' = quarter h j L) (hl : 4 < L'.length) (hC : Chg m m' n) :
    ∃ T, TrP (setM m' id ⟨false, [], 0, ks.set q k', cs.set q c'⟩) (h + 1) id L' (id :: T) ∧ Rpl m (setM m' id ⟨false, [], 0, ks.set q k', cs.set q c'⟩) (id :: (J 0 ++ (J 1 ++ (J 2 ++ J 3)))) (id :: T) ∧
      ((∀ i ∈ J q, i ∈ B) → ∀ i ∈ id :: (J 0 ++ (J 1 ++ (J 2 ++ J 3))), i ∈ id :: T) ∧ Chg m (setM m' id ⟨false, [], 0, ks.set q k', cs.set q c'⟩) (n + 1) := by
  obtain ⟨hid, hn4⟩ := List.nodup_cons.1 hn
  obtain ⟨hnd, hdis⟩ := nodup_four.1 hn4
  have hth : ∀ j, j < 4 → ∀ i ∈ J j, m i ≠ none := fun j hj => SubP_there (hJ j hj)
  have hidJ : ∀ j, j < 4 → id ∉ J j := fun j hj hm => hid (mem_four hj hm)
  have hm : m id ≠ none := by rw [h1]; simp
  have hidB : id ∉ B := hR.off hm (hidJ q hq)
  have hm' : m' id ≠ none := by rw [hR.keep hm (hidJ q hq)]; exact hm
  let J' : Nat → List Int := fun j => if j = q then B else J j
  have J'q : J' q = B := if_pos rfl
  have J'n : ∀ j, j ≠ q → J' j = J j := fun j hj => if_neg hj
  have keepJ : ∀ j, j < 4 → j ≠ q → ∀ i ∈ J j, m' i = m i := fun j hj hne i hi => hR.keep (hth j hj i hi) (hdis j q hj hq hne i hi)
  have idJ' : ∀ j, j < 4 → id ∉ J' j := fun j hj => by
    by_cases e : j = q
    · subst e; rw [J'q]; exact hidB
    · rw [J'n j e]; exact hidJ j hj
  have there' : ∀ j, j < 4 → ∀ i ∈ J' j, m' i ≠ none := fun j hj i hi => by
    by_cases e : j = q
    · subst e; rw [J'q] at hi; exact hR.there i hi
    · rw [J'n j e] at hi; rw [keepJ j hj e i hi]; exact hth j hj i hi
  refine ⟨J' 0 ++ (J' 1 ++ (J' 2 ++ J' 3)), ?_, ⟨fun i ha hb => ?_, fun i ha hb => ?_, fun i hb ha => ?_, ?_, fun i hi => ?_, ?_⟩, fun hBk i hi => ?_, ?_⟩
  · unfold TrP
    rw [if_neg (by omega)]
    refine ⟨_, _, J', setM_same, by simpa using hk, by simpa using hc, rfl, fun j hj => ?_⟩
    rw [getD_set (by omega), getD_set (by omega)]
    by_cases e : q = j
    · subst e
      rw [if_pos rfl, if_pos rfl, J'q]
      exact SubP_congr (TrP_congr fun i hi => setM_ne (by rintro rfl; exact hidB hi)) hS
    · rw [if_neg e, if_neg e, J'n j (Ne.symm e), he j hj (Ne.symm e)]
      refine SubP_congr (TrP_congr fun i hi => ?_) (hJ j hj)
      rw [setM_ne (by rintro rfl; exact hidJ j hj hi), keepJ j hj (Ne.symm e) i hi]
  · simp only [List.mem_cons, mem_four_iff, not_or, not_exists, not_and] at ha hb
    rw [setM_ne hb.1]
    refine hR.same i (ha.2 q hq) ?_
    have := hb.2 q hq
    rwa [J'q] at this
  · simp only [List.mem_cons, mem_four_iff, not_or, not_exists, not_and] at ha hb
    rw [setM_ne hb.1]
    obtain ⟨j, hj, hm⟩ := ha.resolve_left hb.1
    by_cases e : j = q
    · subst e
      have := hb.2 j hj
      rw [J'q] at this
      exact hR.gone i hm this
    · have := hb.2 j hj
      rw [J'n j e] at this
      exact absurd hm this
  · simp only [List.mem_cons, mem_four_iff, not_or, not_exists, not_and] at ha hb
    obtain ⟨j, hj, hm⟩ := hb.resolve_left ha.1
    by_cases e : j = q
    · subst e
      rw [J'q] at hm
      exact hR.new i hm (ha.2 j hj)
    · rw [J'n j e] at hm
      exact absurd hm (ha.2 j hj)
  · refine List.nodup_cons.2 ⟨fun hm => ?_, nodup_four.2 ⟨fun j hj => ?_, fun i j hi hj hne x hx hy => ?_⟩⟩
    · obtain ⟨j, hj, hm⟩ := mem_four_iff.1 hm
      exact idJ' j hj hm
    · by_cases e : j = q
      · subst e; rw [J'q]; exact hR.nodup
      · rw [J'n j e]; exact hnd j hj
    · by_cases ei : i = q
      · subst ei
        rw [J'q] at hx
        rw [J'n j (Ne.symm hne)] at hy
        exact hR.off (hth j hj x hy) (hdis j i hj hi (Ne.symm hne) x hy) hx
      · rw [J'n i ei] at hx
        by_cases ej : j = q
        · subst ej
          rw [J'q] at hy
          exact hR.off (hth i hi x hx) (hdis i j hi hj hne x hx) hy
        · rw [J'n j ej] at hy
          exact hdis i j hi hj hne x hx hy
  · by_cases e : i = id
    · subst e; rw [setM_same]; simp
    · rw [setM_ne e]
      rcases List.mem_cons.1 hi with e' | hi
      · exact absurd e' e
      · obtain ⟨j, hj, hm⟩ := mem_four_iff.1 hi
        exact there' j hj i hm
  · rw [freeL_set hm']
    have := hR.count
    simp only [List.length_cons, List.length_append]
    rcases four_eq hq with e | e | e | e <;> subst e <;> simp only [J'] <;> simp <;> omega
  · rcases List.mem_cons.1 hi with rfl | hi
    · exact List.mem_cons_self ..
    · obtain ⟨j, hj, hm⟩ := mem_four_iff.1 hi
      refine List.mem_cons_of_mem _ (mem_four (q := j) hj ?_)
      by_cases e : j = q
      · subst e; rw [J'q]; exact hBk i hm
      · rw [J'n j e]; exact hm
  · obtain ⟨D, hD1, hD2⟩ := hC
    refine ⟨id :: D, by simp; omega, fun i hi g1 g2 => ?_⟩
    simp only [List.mem_cons, not_or] at hi
    rw [setM_ne hi.1] at g2 ⊢
    exact hD2 i hi.2 g1 g2
end Cr

/- Functions that a defer calls and that recover: their conditions. -/
set_option linter.unusedVariables false
set_option linter.unusedSimpArgs false
namespace Sx
open Go
/-- What recover gives, and the mode of the function that is left. -/
def recU (u : FrameMode) : Value × FrameMode := match u with
  | .panicking ({ v, recovered := false, goexit := false } :: older) => (v, .panicking ({ v, recovered := true } :: older))
  | u => (.nilIface, u)
def retD (fn : Func) (R : Ending → FrameMode → Heap → Prop) (u' : FrameMode) (s : St) (H : Heap) : Prop := match s.dfr, fn.results.toList with
  | [], [] => R (.returned (.tuple #[])) u' H
  | _, _ => False
theorem retD_eq {fn : Func} {R : Ending → FrameMode → Heap → Prop} {u' : FrameMode} {s : St} {H : Heap} (h : retD fn R u' s H) : s.dfr = [] ∧ fn.results.toList = [] ∧ R (.returned (.tuple #[])) u' H := by
  unfold retD at h
  split at h
  · exact ⟨by assumption, by assumption, h⟩
  · exact h.elim
def retQD (fn : Func) (R : Ending → FrameMode → Heap → Prop) (u' : FrameMode) : Exit → St → Heap → Prop
  | .ret, s, H => retD fn R u' s H
  | .normal, s, H => retD fn R u' s H
  | _, _, _ => False
/-- A function whose first operation is recover. -/
def vcFunD (P : Program) (hs : Hints) (fn : Func) (args : List SV) (u : FrameMode) (R : Ending → FrameMode → Heap → Prop) (H : Heap) : Prop :=
  match fn.body with
  | some (.seq (.region _ ops false) rest) => match ops.toList with
    | o :: os => match o.op, o.dst, o.guard with
      | .call { callee := .builtin .recover, args := _, argTypes := _ }, some d, none => one (recU u).1 = true ∧
        opsK P hs (seqQ (fun s' H' => vc P hs rest (retQD fn R (recU u).2) s' H') (retQD fn R (recU u).2)) ops.toList os (St.set ⟨args ++ badN (fn.ntmps - args.length), [], []⟩ d (.c (.v (recU u).1))) H
      | _, _, _ => False
    | [] => False
  | _ => False
section
variable {P : Program}
theorem upon_mono {o : Oper} {a : Act} {next next' : Act → World → Prop} {Q Q' : Exit → Act → World → Prop} (hn : ∀ a w, next a w → next' a w) (hQ : ∀ e a w, Q e a w → Q' e a w) {r : Result Next} (h : o.upon P a next Q r) : o.upon P a next' Q' r := by
  unfold Oper.upon at *
  split at h
  · exact hn _ _ h
  · exact hn _ _ h
  · exact hn _ _ h
  · refine Calls.mono h fun e w' he => ?_
    cases e with
    | returned v => exact hn _ _ he
    | panicked c => exact hQ _ _ _ he
    | outgrown => exact he.imp fun a he => he.imp fun w he => hQ _ _ _ he
  · obtain h := h
    exact fun a b => let ⟨v, w', h1, h2⟩ := h a b; ⟨v, w', hn _ _ h1, h2⟩
  · exact hQ _ _ _ h
  · exact h.elim
/-- Where nothing recovers, callers stay as they are. -/
theorem wpOpsS_of {ops : Array Oper} {Q : Exit → Act → World → Prop} (hout : ∀ a w, ¬ Q .outgrown a w) {cs : List Frame} : ∀ (l : List Nat) (a : Act) (w : World), wpOps P ops Q l a w → wpOpsS P ops (fun e a cs' w => cs' = cs ∧ Q e a w) l a cs w
  | [], a, w, h => ⟨rfl, h⟩
  | i :: r, a, w, h => by
    simp only [wpOps] at h
    simp only [wpOpsS]
    cases ho : ops[i]? with
    | none => simp only [ho] at h; exact wpOpsS_of hout r _ _ h
    | some o =>
      simp only [ho] at h ⊢
      by_cases hw : Region.wanted o (yielded ops a.tmps) = true
      · rw [if_pos hw] at h ⊢
        have h : o.wp P a w (wpOps P ops Q r) Q := h.resolve_right fun ⟨_, a', w', q⟩ => hout a' w' q
        unfold Oper.wp at h
        generalize (execOp a.eval o).run P w = res at h
        split
        · exact h.elim
        · exact upon_mono (fun a w h => wpOpsS_of hout r a w h) (fun e a w h => ⟨trivial, h⟩) h
      · rw [if_neg hw] at h ⊢
        exact wpOpsS_of hout r _ _ h
theorem wpOpsS_mono {ops : Array Oper} {Q Q' : Exit → Act → List Frame → World → Prop} (hQ : ∀ e a cs w, Q e a cs w → Q' e a cs w) : ∀ {l : List Nat} {a : Act} {cs : List Frame} {w : World}, wpOpsS P ops Q l a cs w → wpOpsS P ops Q' l a cs w
  | [], a, cs, w, h => hQ _ _ _ _ h
  | i :: r, a, cs, w, h => by
    simp only [wpOpsS] at h ⊢
    cases ho : ops[i]? with
    | none => simp only [ho] at h; exact wpOpsS_mono hQ h
    | some o =>
      simp only [ho] at h ⊢
      by_cases hw : Region.wanted o (yielded ops a.tmps) = true
      · rw [if_pos hw] at h ⊢
        split at h
        · split at h
          · exact wpOpsS_mono hQ h
          · exact wpOpsS_mono hQ h
        · exact upon_mono (fun a w h => wpOpsS_mono hQ h) (fun e a w h => hQ _ _ _ _ h) h
      · rw [if_neg hw] at h ⊢
        exact wpOpsS_mono hQ h
theorem recoverD_eq {c : Frame} {cs : List Frame} {u : FrameMode} (hu : c.mode = u) : recoverD (c :: cs) = some ((recU u).1, { c with mode := (recU u).2 } :: cs) ∨ (recoverD (c :: cs) = none ∧ (recU u).1 = .nilIface ∧ { c with mode := (recU u).2 } :: cs = c :: cs) := by
  have same : ∀ m, c.mode = m → { c with mode := m } = c := fun m e => by subst e; rfl
  cases u with
  | run => exact .inr ⟨by simp only [recoverD, hu], rfl, by rw [show (recU .run).2 = .run from rfl, same _ hu]⟩
  | returning => exact .inr ⟨by simp only [recoverD, hu], rfl, by rw [show (recU .returning).2 = .returning from rfl, same _ hu]⟩
  | panicking l =>
    cases l with
    | nil => exact .inr ⟨by simp only [recoverD, hu], rfl, by rw [show (recU (.panicking [])).2 = .panicking [] from rfl, same _ hu]⟩
    | cons e older =>
      obtain ⟨v, rc, ge⟩ := e
      cases rc <;> cases ge
      · exact .inl (by simp only [recoverD, hu, recU])
      all_goals exact .inr ⟨by simp only [recoverD, hu], rfl, by simp only [recU]; rw [same _ hu]⟩
theorem meetsD_of_vc {f : FuncId} {fn : Func} {hs : Hints} {args : List SV} {vs : List Value} {u : FrameMode} {H : Heap} {R : Ending → FrameMode → Heap → Prop} (hf : P.funcs[f]? = some fn) (hc : callable P f = true)
    (hE : ∀ t, memN hs.eqs t = true → EqOK P t) (ha : argsR args vs) (h : vcFunD P hs fn args u R H) : MeetsD P f vs u H R := by
  refine ⟨hc, fun w hH => ?_⟩
  unfold vcFunD at h
  split at h
  · rename_i id ops rest hb
    split at h
    · rename_i o os hops
      split at h
      · rename_i ra rt d hop hd hg
        obtain ⟨hlen, hargs⟩ := argsR_get ha
        refine callsD_of_wpS hf hb fun c₀ cs hcm => ?_
        let C : Ctx := ⟨w, H⟩
        have hrep : Rep C ⟨fun _ => 0, fun _ => undef⟩ ⟨args ++ badN (fn.ntmps - args.length), [], []⟩ H { tmps := vs.toArray ++ Array.replicate (fn.ntmps - vs.toArray.size) undef, defers := [] } w := by
          refine { env := ?_, len := ?_, dfr := rfl, sub := hH, objs := by simp [look], priv := by simp [look], dist := by simp [look], os := rfl, tape := rfl, output := rfl, size := Nat.le_refl _, other := fun b _ e => ⟨rfl, e⟩ }
          · intro t x hx
            rw [nth_eq] at hx
            by_cases ht : t < args.length
            · rw [List.getElem?_append_left ht] at hx
              have ht' : t < vs.length := by omega
              refine hargs _ t x _ hx ?_
              rw [Array.getD_eq_getD_getElem?, Array.getElem?_append_left (by simpa using ht')]
              simp [ht']
            · rw [List.getElem?_append_right (by omega)] at hx
              have := badN_get _ _ _ hx
              subst this
              trivial
          · simp [badN_len]; omega
        generalize ({ tmps := vs.toArray ++ Array.replicate (fn.ntmps - vs.toArray.size) undef, defers := [] } : Act) = a0 at hrep
        obtain ⟨hone, h⟩ := h
        have hrep1 := hrep.put (x := .c (.v (recU u).1)) (y := (recU u).1) ⟨rfl, hone⟩ (some d)
        refine wpS_seq (wpS_region ?_)
        have hsz : List.range ops.size = 0 :: List.range' 1 os.length := by
          rw [List.range_eq_range', ← Array.length_toList, hops, List.length_cons, List.range'_succ]
        rw [hsz]
        have h0 : ops[0]? = some o := by rw [← Array.getElem?_toList, hops]; rfl
        have hrun : (execOp a0.eval o).run P w = .ok .recover w := by
          unfold execOp
          rw [hop]
          rfl
        have fin : wpOpsS P ops (Exit.thenS (rest.wpS P (bodyPostS P fn c₀ cs fun e u' w' => ∃ H', Step H w H' w' ∧ R e u' H')) (bodyPostS P fn c₀ cs fun e u' w' => ∃ H', Step H w H' w' ∧ R e u' H')) (List.range' 1 os.length) (a0.put (some d) (recU u).1) ({ c₀ with mode := (recU u).2 } :: cs) w := by
          have hl := opsK_sound hE os hrep1 h
          rw [← wpOps_eq_wpList os 1 (fun j => by rw [← Array.getElem?_toList, hops, Nat.add_comm]; rfl)] at hl
          have hs' := wpOpsS_of (cs := { c₀ with mode := (recU u).2 } :: cs) (fun a w ⟨V, s, H, _, q⟩ => q) _ _ _ hl
          have post : ∀ (e : Exit) (a : Act) (w' : World), GamQ C (retQD fn R (recU u).2) e a w' → bodyPostS P fn c₀ cs (fun e u' w' => ∃ H', Step H w H' w' ∧ R e u' H') e a ({ c₀ with mode := (recU u).2 } :: cs) w' := by
            rintro e a w' ⟨V, s, H', hr, hq⟩
            have done : (s.dfr = [] ∧ fn.results.toList = [] ∧ R (.returned (.tuple #[])) (recU u).2 H') → a.defers = [] ∧ ∃ u', ({ c₀ with mode := (recU u).2 } :: cs : List Frame) = { c₀ with mode := u' } :: cs ∧ ∃ v, (results fn a.tmps).run P w' = .ok v w' ∧ ∃ H', Step H w H' w' ∧ R (.returned v) u' H' := by
              rintro ⟨q1, q2, q3⟩
              refine ⟨by rw [hr.dfr, q1]; rfl, _, rfl, .tuple #[], ?_, H', rep_ends hr, q3⟩
              exact results_run (ys := []) (by rw [q2]; rfl)
            cases e with
            | ret => exact done (retD_eq hq)
            | normal => exact done (retD_eq hq)
            | panic ch => exact hq.elim
            | exit i => exact hq.elim
            | goto i => exact hq.elim
            | outgrown => exact hq.elim
          refine wpOpsS_mono ?_ hs'
          rintro e a cs' w' ⟨rfl, V, s, H', hr, hq⟩
          cases e with
          | normal =>
            refine wpS_of_wp (wp_mono (vc_sound hE rest hr hq) fun e a w' hg => post e a w' hg)
          | ret => exact post .ret a w' ⟨V, s, H', hr, hq⟩
          | panic ch => exact hq.elim
          | exit i => exact hq.elim
          | goto i => exact hq.elim
          | outgrown => exact hq.elim
        simp only [wpOpsS, h0]
        rw [if_pos (by simp [Region.wanted, hg]), hrun]
        simp only [hd]
        rcases recoverD_eq (cs := cs) hcm with e | ⟨e, e2, e3⟩
        · rw [e]; exact fin
        · rw [e]
          simp only
          rw [e2, e3] at fin
          exact fin
      · exact h.elim
    · exact h.elim
  · exact h.elim
end
end Sx

/- Errors on the way: what a deferred call makes of them. Trees felled, added to, cut, built. -/
set_option linter.unusedVariables false
set_option linter.unusedSimpArgs false
namespace Cr
open Go Sx Stb Bt
open Go.Sort (SWO)
open Go.Proofs.Try
set_option maxRecDepth 100000
def nf_caught0 (A : Addr) (B : Addr) (R : Ending → FrameMode → Heap → Prop) (H : Heap) : Prop := one Value.nilIface = true ∧ R (Ending.returned (Value.tuple { toList := [] })) (recU FrameMode.returning).snd H
theorem vc_caught0 (A : Addr) (B : Addr) (R : Ending → FrameMode → Heap → Prop) (H : Heap) : vcFunD prog { } f61 [SV.c (SC.v (Value.pointer (some A))), SV.c (SC.v (Value.pointer (some B)))] FrameMode.returning R H = nf_caught0 A B R H := by kernel_rfl

def nf_caught1 (A : Addr) (B : Addr) (e : Int) (R : Ending → FrameMode → Heap → Prop) (H : Heap) : Prop := one (Value.iface (137 : Nat) (Value.agg { toList := [Value.int IntKind.i64 e] })) = true ∧ ∃ (G : Nat → Option Obj), G ≤ H ∧ PtrK (some A) fun (a : Addr) ↦ PtrK (some a) fun (A : Addr) ↦ ∃ (c : Array Value), ∃ (ty : Nat), (H A.block = some (Obj.cells c ty) ∧ A.spot = none ∧ A.off + (1 : Nat) ≤ Array.size c) ∧ G A.block = none ∧ PtrK (some B) fun (a : Addr) ↦ PtrK (some a) fun (A_1 : Addr) ↦ ∃ (c_1 : Array Value), ∃ (ty_1 : Nat), (Heap.upd H A.block (Obj.cells (writeCells c A.off [Value.pointer none]) ty) A_1.block = some (Obj.cells c_1 ty_1) ∧ A_1.spot = none ∧ A_1.off + (1 : Nat) ≤ Array.size c_1) ∧ G A_1.block = none ∧ R (Ending.returned (Value.tuple { toList := [] })) (recU (FrameMode.panicking [{ v := Value.iface (137 : TypeId) (Value.agg { toList := [Value.int IntKind.i64 e] }), recovered := false }])).snd (Heap.upd (Heap.upd H A.block (Obj.cells (writeCells c A.off [Value.pointer none]) ty)) A_1.block (Obj.cells (writeCells c_1 A_1.off [Value.int IntKind.i64 e]) ty_1))
theorem vc_caught1 (A : Addr) (B : Addr) (e : Int) (R : Ending → FrameMode → Heap → Prop) (H : Heap) : vcFunD prog { } f61 [SV.c (SC.v (Value.pointer (some A))), SV.c (SC.v (Value.pointer (some B)))] (FrameMode.panicking [{ v := Value.iface (137 : TypeId) (Value.agg { toList := [Value.int IntKind.i64 e] }), recovered := false }]) R H = nf_caught1 A B e R H := by kernel_rfl

section
variable {R : Ending → Heap → Prop} {H : Heap}
theorem delO_le (H : Heap) (b : Option Nat) : H.delO b ≤ H := fun x o e => by
  cases b with
  | none => exact e
  | some b =>
    have e : (if x = b then none else H x) = some o := e
    split at e
    · cases e
    · exact e
theorem append_eq {α : Type} (a b : List α) : List.append a b = a ++ b := rfl
theorem delsM_nil (m : M) : delsM m [] = m := by funext i; simp [delsM]
theorem Dom.dels {m : M} (h : Dom m) (I : List Int) : Dom (delsM m I) := fun j e he => by
  unfold delsM at he
  split at he
  · cases he
  · exact h j e he
theorem delsM_app (m : M) (A B : List Int) (k : Int) : delM (delsM (delsM m A) B) k = delsM m (A ++ k :: B) := by
  funext i
  unfold delM delsM
  simp only [List.mem_append, List.mem_cons]
  by_cases h1 : i = k <;> by_cases h2 : i ∈ A <;> by_cases h3 : i ∈ B <;> simp [h1, h2, h3]
theorem s_fell : ∀ (N : Nat) {g : Addr} {r : Nat} {m : M} {id dp : Int} {L : List Pt} {I : List Int} {H : Heap} {R : Ending → Heap → Prop}, I.length ≤ N → GroveAt H g r m → Dom m → FT m id L I → I.Nodup → 0 ≤ dp → dp + I.length ≤ 512 → L.length ≤ 1000000 →
    (∀ v H', GroveAt (H'.delO (blockOf v)) g r (delsM m I.tail) → GMod r H (H'.delO (blockOf v)) → (∀ b, blockOf v = some b → H b = none) → RowAt H' v tPt 4 (pts L) → R (.returned v) H') → Meets prog 108 [grV (some g), vi id, vi dp] H R := by
  intro N
  induction N with
  | zero =>
    intro g r m id dp L I H R hN hg hD hF
    obtain ⟨d, L1, I1, _, _, _, rfl⟩ := hF
    simp at hN
  | succ N ih =>
    intro g r m id dp L I H R hN hg hD hF hnd hdp hdl hLl k
    obtain ⟨d, L1, I1, hd, hFs, rfl, rfl⟩ := hF
    simp only [List.length_cons, List.length_append, List.tail_cons] at hN hdl hLl k
    refine spec_of func108 (by kernel_rfl) (fun t h => by cases h) ?_ (vc_fell (some g) id dp R H) ?_
    · simp [argsR, SV.rep, SegsRep, SC.rep, one]
    unfold nf_fell
    have hfew := hD.few hd
    refine s_gget hg hd (by omega) (fun d' e => by rw [hd] at e; cases e; omega) fun v H1 hle1 hv1 => ?_
    obtain ⟨a, n, c, rfl, hs1, hk, hc⟩ := hv1
    refine .inl ⟨_, a, n, c, _, _, hk, _, hc, rfl, s_need (fun _ => .inl ⟨rfl, ?_⟩) fun q => by simp at q; omega⟩
    refine s_clone hs1 (by omega) fun v2 H2 hle2 hfr2 hrow2 => ?_
    obtain ⟨a2, c2, rfl⟩ := row_val hrow2
    have hC : List.append (List.map (fun v => [vi v]) d.kids) [[vi d.next]] = cells (d.kids ++ [d.next]) := by rw [append_eq]; simp [cells]
    have hCl : (d.kids ++ [d.next]).length = 5 := by simp [hk]
    have hCc : (cells (d.kids ++ [d.next])).length = 5 := by simp [cells, hk]
    rw [hC, hCc]
    simp only [true_and]
    have hle3 := le_delO (heap_trans hle1 hle2) (fresh_le hle1 hfr2)
    refine .inl ⟨_, _, _, rfl, by omega, _, hrow2, ?_⟩
    refine ⟨fun p H' => ∃ (t : Nat) (Ld Lr : List Pt) (Id Ir : List Int), p.1.2.1 = t ∧ t ≤ 5 ∧ p.1.1 = pts (d.pts ++ Ld) ∧ L1 = Ld ++ Lr ∧ I1 = Id ++ Ir ∧ FTs m ((d.kids ++ [d.next]).drop t) Lr Ir ∧ GroveAt H' g r (delsM m Id) ∧ GMod r H H', fun p _ => (5 - p.1.2.1).toNat, ⟨0, [], L1, [], I1, rfl, by omega, by simp, rfl, rfl, hFs, ?_, GMod.of_le hle3⟩, ?_⟩
    · rw [delsM_nil]; exact hg.le hle3
    rintro ⟨⟨acc, i, _⟩, _⟩ H3 ⟨t, Ld, Lr, Id, Ir, hi, ht, hacc, hL, hI, hF, hg3, hm3⟩
    simp only at hi hacc ⊢
    subst hi; subst hacc
    refine br (fun q => ?_) fun q => ?_
    · simp only [decide_eq_true_eq] at q
      have ht5 : t < 5 := by omega
      have hx : (d.kids ++ [d.next])[t]? = some (d.kids ++ [d.next])[t] := List.getElem?_eq_getElem (by omega)
      rw [List.drop_eq_getElem_cons (by omega)] at hF
      rw [w64 (k := (t : Int) + 1) (by omega), Int.toNat_natCast]
      have look : ∀ k, (d.kids ++ [d.next])[t] = k → ∃ e, (cells (d.kids ++ [d.next]))[t]? = some e ∧ List.take 1 (List.drop 0 e) = [vi k] := fun k e => ⟨[vi k], by simp only [cells, List.getElem?_map, hx, e, Option.map_some], rfl⟩
      generalize hk0 : (d.kids ++ [d.next])[t] = k0 at hF
      refine ⟨⟨by omega, by omega⟩, k0, look k0 hk0, ?_⟩
      cases hF with
      | zero hF =>
        refine br (fun q => by simp at q) fun _ => ?_
        exact ⟨⟨t + 1, Ld, Lr, Id, Ir, by omega, by omega, rfl, hL, hI, hF, hg3, hm3⟩, by omega⟩
      | @cons _ _ d' L1' L'' I1' I'' hpos hd' hF1 hF2 =>
        refine br (fun _ => ?_) fun q => by simp at q; omega
        subst hL; subst hI
        obtain ⟨_, hnI⟩ := List.nodup_cons.1 hnd
        rw [List.nodup_append] at hnI
        obtain ⟨_, hnr, hdisj⟩ := hnI
        have hFT : FT m k0 (d'.pts ++ L1') (k0 :: I1') := ⟨d', L1', I1', hd', hF1, rfl, rfl⟩
        have hFT' : FT (delsM m Id) k0 (d'.pts ++ L1') (k0 :: I1') := hFT.congr fun i hi => by
          unfold delsM
          rw [if_neg fun hm => hdisj i hm i (by rw [List.cons_append] at *; exact List.mem_append_left I'' hi) rfl]
        simp only [List.length_append, List.length_cons] at hN hdl hLl
        rw [w64 (by omega)]
        refine ih (L := d'.pts ++ L1') (I := k0 :: I1') (by simp only [List.length_cons]; omega) hg3 (hD.dels Id) hFT' ?_ (by omega) (by simp only [List.length_cons]; omega) (by rw [List.length_append]; omega) fun v' H4 hg4 hm4 _ hrow4 => ?_
        · exact (List.nodup_append.1 (show ((k0 :: I1') ++ I'').Nodup from hnr)).1
        · obtain ⟨a4, c4, rfl⟩ := row_val hrow4
          have hg4 := hg4.le (delO_le H4 _)
          have hm4 := hm4.trans (GMod.of_le (r := r) (delO_le H4 _))
          refine .inl ⟨_, _, _, rfl, _, row_slice hrow4, ?_, ?_⟩
          · rw [append_eq]
            simp only [pts, List.length_append, List.length_map]; omega
          · refine s_drop hg4 fun H5 hg5 hm5 => .inl ⟨_, rfl, ⟨t + 1, Ld ++ (d'.pts ++ L1'), L'', Id ++ k0 :: I1', I'', by omega, by omega, ?_, ?_, ?_, hF2, ?_, (hm3.trans hm4).trans hm5⟩, by omega⟩
            · rw [append_eq]; simp [pts]
            · simp
            · simp
            · simp only [List.tail_cons] at hg5
              rw [delsM_app] at hg5
              exact hg5
    · simp only [decide_eq_false_iff_not] at q
      have : t = 5 := by omega
      subst this
      rw [List.drop_of_length_le (by omega)] at hF
      cases hF
      subst hL; subst hI
      simp only [List.append_nil] at k
      intro v' H4 h1 h2 _ h4
      have h1' := le_delO h1 h2
      refine k v' H4 (hg3.le h1') (hm3.trans (GMod.of_le h1')) (fun b hb => ?_) h4
      have hn3 := h2 b hb
      cases e : H b with
      | none => rfl
      | some o =>
        by_cases hbr : b = r
        · subst hbr
          obtain ⟨es, clk, hr⟩ := hg3.isMap
          rw [hr] at hn3; cases hn3
        · have := hm3 b o hbr e
          rw [hn3] at this; cases this
theorem s_again {h : Nat} {g : Addr} {r : Nat} {m : M} {id x y lv : Int} {v : Value} {l : List Pt} (hh : h ≤ 32) (hlv : lv = 32 - (h : Int)) (hx : Cor h x) (hy : Cor h y) (hbig : l.length ≤ 60000) (hg : GroveAt H g r m) (hD : Dom m) (hL : LOK (sortP l)) (hs : SliceAt H v 4 (pts l)) (hid : 1 ≤ id ∧ id ≤ 255)
    (k1 : ∀ m' H', growF h m id (sortP l) = some m' → Dom m' → GroveAt H' g r m' → GMod r H H' → R (.returned unitV) H') (k2 : growF h m id (sortP l) = none → ∀ H', GMod r H H' → R (.panicked (stopE 10)) H') :
    Meets prog 112 [grV (some g), vi id, ceV x y lv, v] H R := by
  obtain ⟨a, n, c, rfl, hn⟩ := hs
  have hs : SliceAt H (.slice a n c) 4 (pts l) := ⟨a, n, c, rfl, hn⟩
  refine spec_of func112 (by kernel_rfl) (fun t h => by cases h) ?_ (vc_again (some g) id x y lv a n c R H) ?_
  · simp [argsR, SV.rep, SegsRep, SC.rep, one]
  unfold nf_again
  refine ⟨_, none_le _, s_srt hs (by omega) fun v1 H1 hle1 hfr1 hrow1 => ?_⟩
  obtain ⟨a1, c1, rfl⟩ := row_val hrow1
  have hl := sortP_len l
  exact .inl ⟨keep_none _ _, _, _, _, rfl, s_grow h hh hlv hx hy (by omega) (hg.le hle1) hD hL (row_slice hrow1) hid (fun m' H' e1 e2 e3 e4 => .inl ⟨keep_none _ _, rfl, k1 m' H' e1 e2 e3 ((GMod.of_le hle1).trans e4)⟩) fun e1 H' e2 => .inr ⟨_, rfl, k2 e1 H' ((GMod.of_le hle1).trans e2)⟩⟩
theorem row_del_eq {H H' : Heap} {v : Value} (hm : Mod v H H') : H'.delO (blockOf v) = H.delO (blockOf v) := by
  funext b
  cases hb : blockOf v with
  | none => exact hm b (by rw [hb]; simp)
  | some b' =>
    show (if b = b' then none else H' b) = if b = b' then none else H b
    split
    · rfl
    · exact hm b (by rw [hb]; simpa [eq_comm] using ‹¬ b = b'›)
theorem qt_range {h : Nat} {p : Pt} : 0 ≤ qt h p ∧ qt h p < 4 := by unfold qt; omega
theorem Chg.mono {m m' : M} {a b : Nat} (h : Chg m m' a) (hab : a ≤ b) : Chg m m' b := by
  obtain ⟨D, h1, h2⟩ := h
  exact ⟨D, by omega, h2⟩
theorem dom_len {m : M} (hD : Dom m) {I : List Int} (hn : I.Nodup) (h : ∀ i ∈ I, m i ≠ none) : I.length ≤ 255 := by
  have := nodup_len (b := numsL) hn fun i hi => by
    cases e : m i with
    | none => exact absurd e (h i hi)
    | some d => have := hD i d e; exact mem_numsL.2 ⟨this.1, this.2.1⟩
  simpa using this
theorem Low.fresh {m : M} {k : Int} {r : List Int} {d : Nd} (h : Low m) (hf : freeL m = k :: r) : Low (setM m k d) := fun i j hi hj => by
  rw [freeL_take hf] at hj
  by_cases e : i = k
  · subst e
    have := freeL_rise m
    rw [hf, List.pairwise_cons] at this
    exact this.1 j hj
  · rw [setM_ne e] at hi
    exact h i j hi (by rw [hf]; exact List.mem_cons_of_mem _ hj)
theorem TrP_nil {m : M} {h : Nat} {k : Int} (e : m k = some nd1) : TrP m h k [] [k] := by
  cases h with
  | zero => exact ⟨rfl, by simp, e⟩
  | succ h => unfold TrP; rw [if_pos (by simp)]; exact ⟨rfl, by simp, e⟩
theorem nds_small {h : Nat} {L : List Pt} (hl : L.length ≤ 4) : nds h L = 1 := by
  cases h with
  | zero => unfold nds nch; rw [if_pos hl]
  | succ h => unfold nds; rw [if_pos hl]
theorem set_self {l : List Int} {q : Nat} (h : q < l.length) : l.set q (l.getD q 0) = l := by
  apply List.ext_getElem?
  intro i
  rw [List.getElem?_set]
  split
  · subst_vars
    simp [h]
  · rfl
theorem not_mem_quarter {h q : Nat} {L : List Pt} {p : Pt} (hp : p.id ∉ L.map Pt.id) : p.id ∉ (quarter h q L).map Pt.id := fun hm => by
  obtain ⟨x, hx, e⟩ := List.mem_map.1 hm
  exact hp (e ▸ List.mem_map_of_mem (List.mem_filter.1 hx).1)
theorem s_add_leaf {h : Nat} {g : Addr} {r : Nat} {m : M} {id x y lv : Int} {p : Pt} {L : List Pt} {T : List Int} {d : Nd} (hd : m id = some d) (hlf : d.leaf = true) (hh : h ≤ 32) (hlv : lv = 32 - (h : Int)) (hx : Cor h x) (hy : Cor h y) (hbig : L.length ≤ 50000) (hg : GroveAt H g r m) (hD : Dom m) (hL : LOK L) (ht : TrP m h id L (id :: T)) (hn : (id :: T).Nodup)
    (hpo : ptOK p) (hpr : PtR p) (hpi : p.id ∉ L.map Pt.id) 
    (k1 : nds h (insP L p) ≤ nds h L + (freeL m).length → ∀ m' T' H', TrP m' h id (insP L p) (id :: T') → Rpl m m' (id :: T) (id :: T') → (Low m → ∀ i ∈ id :: T, i ∈ id :: T') → Chg m m' (nds h L) → Dom m' → GroveAt H' g r m' → GMod r H H' → R (.returned unitV) H')
    (k2 : nds h L + (freeL m).length < nds h (insP L p) → ∀ H', GMod r H H' → R (.panicked (stopE 10)) H') :
    Meets prog 78 [grV (some g), vi id, ceV x y lv, ptV p] H R := by
  refine spec_of func78 (by kernel_rfl) (fun t h => by cases h) ?_ (vc_add (some g) id x y lv p.id p.x p.y p.data R H) ?_
  · simp [argsR, SV.rep, SegsRep, SC.rep, one]
  unfold nf_add
  have hfew := hD.few hd
  have hdd := hD id d hd
  refine s_gget hg hd (by omega) (fun d' e => by rw [hd] at e; cases e; omega) fun v H1 hle1 hv1 => ?_
  obtain ⟨a, n, c, rfl, hs1, hk, hc⟩ := hv1
  refine .inl ⟨_, a, n, c, _, _, hk, _, hc, rfl, br (fun _ => ?_) fun q => by rw [hlf] at q; cases q⟩
  simp only [delLs_nil, List.nil_append, List.append_nil]
  obtain ⟨L', hperm, hF⟩ := TrP_FT hD hL.range ht
  have hlen := dom_len hD hn (TrP_there ht)
  have hpl := hperm.length_eq
  refine ⟨_, none_le _, s_fell _ (Nat.le_refl _) (hg.le hle1) hD hF hn (by omega) (by omega) (by omega) fun v2 H2 hg2 hm2 hfr2 hrow2 => ?_⟩
  simp only [List.tail_cons] at hg2
  obtain ⟨a2, c2, rfl⟩ := row_val hrow2
  have eap : List.append (pts L') [[.int .i64 p.id, .int .u32 p.x, .int .u32 p.y, .string p.data]] = pts (L' ++ [p]) := by rw [append_eq]; simp [pts]
  refine .inl ⟨keep_none _ _, _, _, _, rfl, _, hrow2, fun _ _ => rfl, by rw [eap]; simp [pts]; omega, fun v3 H3 h31 h32 h33 h34 => ?_⟩
  rw [eap] at h34
  obtain ⟨a3, c3, rfl⟩ := row_val h34
  have hsrt : sortP (L' ++ [p]) = insP L p := by
    unfold insP
    exact sortP_eq (insP_ids hL.rise hpi) (hperm.append_right [p])
  obtain ⟨r1, r2⟩ := regrow (insP L p) ht hn hD
  have hmm := ((GMod.of_le (r := r) hle1).trans hm2).trans (GMod.of_le (r := r) h31)
  refine s_again (h := h) hh hlv hx hy (by simp; omega) (hg2.le h31) (hD.dels T) (by rw [hsrt]; exact hL.ins hpi hpo hpr) (row_slice h34) ⟨hdd.1, hdd.2.1⟩ (fun m' H4 e4 D4 g4 m4 => ?_) fun e4 H4 m4 => .inr ⟨_, rfl, ?_⟩
  · rw [hsrt] at e4
    by_cases hle : nds h (insP L p) ≤ nds h L + (freeL m).length
    · obtain ⟨m'', T', f1, f2, f3, f4, f5⟩ := r1 hle
      rw [f1] at e4; cases e4
      exact .inl ⟨none_le _, rfl, k1 hle _ T' H4 f2 f3 (fun hlow => f4 hlow (nds_mono (sub_insP hL.rise hpi))) f5 D4 g4 (hmm.trans m4)⟩
    · rw [r2 (by omega)] at e4; cases e4
  · rw [hsrt] at e4
    by_cases hle : nds h (insP L p) ≤ nds h L + (freeL m).length
    · obtain ⟨m'', T', f1, _⟩ := r1 hle
      rw [f1] at e4; cases e4
    · exact k2 (by omega) H4 (hmm.trans m4)
/-- A point is added below a node. -/
theorem s_add : ∀ (h : Nat) {g : Addr} {r : Nat} {m : M} {id x y lv : Int} {p : Pt} {L : List Pt} {T : List Int} {H : Heap} {R : Ending → Heap → Prop}, h ≤ 32 → lv = 32 - (h : Int) → Cor h x → Cor h y → L.length ≤ 50000 → GroveAt H g r m → Dom m → LOK L → TrP m h id L (id :: T) → (id :: T).Nodup →
    ptOK p → PtR p → p.id ∉ L.map Pt.id →
    (nds h (insP L p) ≤ nds h L + (freeL m).length → ∀ m' T' H', TrP m' h id (insP L p) (id :: T') → Rpl m m' (id :: T) (id :: T') → (Low m → ∀ i ∈ id :: T, i ∈ id :: T') → Chg m m' (h + nch L.length) → Dom m' → GroveAt H' g r m' → GMod r H H' → R (.returned unitV) H') →
    (nds h L + (freeL m).length < nds h (insP L p) → ∀ H', GMod r H H' → R (.panicked (stopE 10)) H') →
    Meets prog 78 [grV (some g), vi id, ceV x y lv, ptV p] H R := by
  intro h
  induction h with
  | zero =>
    intro g r m id x y lv p L T H R hh hlv hx hy hbig hg hD hL ht hn hpo hpr hpi k1 k2
    obtain ⟨d, hd, hlf⟩ : ∃ d, m id = some d ∧ d.leaf = true := by
      obtain ⟨_, hc⟩ := ht
      cases T with
      | nil => exact ⟨_, hc.2, rfl⟩
      | cons a b => exact ⟨_, hc.2.1, rfl⟩
    exact s_add_leaf hd hlf hh hlv hx hy hbig hg hD hL ht hn hpo hpr hpi (fun hle m' T' H' f1 f2 f3 f4 => k1 hle m' T' H' f1 f2 f3 (f4.mono (by unfold nds; omega))) k2
  | succ h ih =>
    intro g r m id x y lv p L T H R hh hlv hx hy hbig hg hD hL ht hn hpo hpr hpi k1 k2
    by_cases hl4 : L.length ≤ 4
    · obtain ⟨d, hd, hlf⟩ : ∃ d, m id = some d ∧ d.leaf = true := by
        unfold TrP at ht
        rw [if_pos hl4] at ht
        obtain ⟨e, hc⟩ := ht
        cases e
        exact ⟨_, hc.2, rfl⟩
      exact s_add_leaf hd hlf hh hlv hx hy hbig hg hD hL ht hn hpo hpr hpi (fun hle m' T' H' f1 f2 f3 f4 => k1 hle m' T' H' f1 f2 f3 (f4.mono (by rw [nds_small hl4]; omega))) k2
    have ht0 := ht
    unfold TrP at ht
    rw [if_neg hl4] at ht
    obtain ⟨ks, cs, J, h1, hk4, hc4, hT, hJ⟩ := ht
    cases hT
    have hdd := hD id _ h1
    have hqa : QuaOK ks cs := by
      have := hdd.2.2
      unfold NdOK at this
      rw [if_neg (by simp)] at this
      exact this.2.2
    refine spec_of func78 (by kernel_rfl) (fun t h => by cases h) ?_ (vc_add (some g) id x y lv p.id p.x p.y p.data R H) ?_
    · simp [argsR, SV.rep, SegsRep, SC.rep, one]
    unfold nf_add
    refine s_gget hg h1 (by simp) (fun d' e => by rw [h1] at e; cases e; simp) fun v H1 hle1 hv1 => ?_
    obtain ⟨a, n, c, rfl, hs1, hk, hc⟩ := hv1
    refine .inl ⟨_, a, n, c, _, _, hk, _, hc, rfl, br (fun q => by cases q) fun _ => ?_⟩
    subst hlv
    refine s_need (fun _ => .inl ⟨rfl, ?_⟩) fun q => by simp at q; omega
    obtain ⟨q, hqq, hq4⟩ : ∃ q : Nat, qt h p = (q : Int) ∧ q < 4 := ⟨(qt h p).toNat, by have := qt_range (h := h) (p := p); omega, by have := qt_range (h := h) (p := p); omega⟩
    refine s_quar (h := h) (by omega) (hx.lt (by omega)) (hy.lt (by omega)) ⟨hpr.1, hpr.2.1⟩ ⟨hpr.2.2.1, hpr.2.2.2⟩ (.inl ⟨_, rfl, ?_⟩)
    have hqq' : p.x / 2 ^ h % 2 + 2 * (p.y / 2 ^ h % 2) = (q : Int) := hqq
    rw [hqq', Int.toNat_natCast]
    have rq : (0 : Int) ≤ (q : Int) ∧ (q : Int) < (4 : Int) := ⟨by omega, by omega⟩
    have hQ : quarter h q (insP L p) = insP (quarter h q L) p := by rw [quarter_insP hL.rise hpi, if_pos hqq]
    have hQn : ∀ j, j < 4 → j ≠ q → quarter h j (insP L p) = quarter h j L := fun j hj hne => by
      rw [quarter_insP hL.rise hpi, if_neg (by rw [hqq]; omega)]
    have hpq : p.id ∉ (quarter h q L).map Pt.id := not_mem_quarter hpi
    have hLl := insP_len L p
    have hQl := insP_len (quarter h q L) p
    have hqle : (quarter h q L).length ≤ L.length := List.length_filter_le _ _
    have hdf := nds_diff (h := h) (L := L) (L' := insP L p) hq4 (by omega) (by omega) hQn
    rw [hQ] at hdf
    have hne : insP (quarter h q L) p ≠ [] := fun e => by rw [e] at hQl; simp at hQl
    rw [nq_some hne] at hdf
    have hnm := nch_mono hqle
    have hnp := nch_pos L.length
    -- the node is put
    have fin : ∀ (m2 : M) (B : List Int) (k : Int) (n0 : Nat) (H2 : Heap) (R' : Ending → Heap → Prop) (cw : Int), Rpl m m2 (J q) B → SubP (TrP m2 h) k ((quarter h q L).length + 1 : Nat) (insP (quarter h q L) p) B → (Low m → ∀ i ∈ J q, i ∈ B) → Chg m m2 n0 → n0 ≤ h + nch L.length → Dom m2 → GroveAt H2 g r m2 → GMod r H H2 → H1 ≤ H2 ∨ GMod r H1 H2 → 1 ≤ k ∧ k ≤ 255 → nds (h + 1) (insP L p) ≤ nds (h + 1) L + (freeL m).length → cw = ((quarter h q L).length + 1 : Nat) → (∀ H', R (.returned unitV) H' → R' (.returned unitV) H') →
        Meets prog 97 [grV (some g), vi id, .agg { toList := .bool false :: .slice a n c :: vi 0 :: List.append (List.map (Value.int IntKind.i64) (ks.set q k)) (List.map (Value.int IntKind.i64) (cs.set q cw) ++ []) }] H2 R' := by
      intro m2 B k n0 H2 R' cw hR hS hB hC hn0 D2 g2 m2' _ hkr hsucc hcw hR'
      subst hcw
      obtain ⟨T', u1, u2, u3, u4⟩ := inner_upd h1 hk4 hc4 hn hJ hq4 hR (by rw [hQ]; exact hS) hQn (by omega) hC
      have ok : NdOK ⟨false, [], 0, ks.set q k, cs.set q ((quarter h q L).length + 1 : Nat)⟩ := innerOK (quaOK_set hqa hk4 hc4 hq4 ⟨by omega, by omega, by omega, by omega, by omega⟩)
      have hsl : SliceAt H2 (.slice a n c) 4 (pts []) := by
        obtain ⟨hl0, _⟩ := slice_len hs1
        simp only [pts, List.map_nil, List.length_nil] at hl0
        subst hl0
        obtain ⟨a', n', c', e, q1, q2, _⟩ := hs1
        cases e
        exact ⟨_, _, _, rfl, rfl, q2, by simp, by simp, by simp⟩
      refine s_gput (d := ⟨false, [], 0, ks.set q k, cs.set q ((quarter h q L).length + 1 : Nat)⟩) g2 ⟨a, n, c, rfl, hsl, by simpa using hk4, by simpa using hc4⟩ ok ⟨hdd.1, hdd.2.1⟩ (by simp) fun H' g3 m3 => hR' H' (k1 hsucc _ T' H' u1 u2 (fun hlow => u3 (hB hlow)) (u4.mono (by omega)) (D2.set ⟨hdd.1, hdd.2.1⟩ ok) g3 (m2'.trans m3))
    rcases hJ q hq4 with ⟨e1, e2, e3, e4⟩ | ⟨e1, e2, e3, e4⟩
    · -- a new quarter
      refine ⟨rq, br (fun _ => ?_) fun q0 => by rw [e2] at q0; simp at q0⟩
      rw [e1, nq_nil] at hdf
      have hq0 : (quarter h q L).length = 0 := by rw [e1]; rfl
      have hi1 : nds h (insP (quarter h q L) p) = 1 := nds_small (by omega)
      rw [e1] at hi1
      refine s_gfresh (hg.le hle1) (fun k l hf H2 g2 m2 => .inl ⟨_, rfl, rq, rq, rq, _, none_le _, rq, ?_⟩) fun hf => .inr ⟨_, rfl, k2 (by rw [hf]; simp; omega) _ (GMod.of_le hle1)⟩
      have hx4 := take_tail hf
      have hgt : (List.set ks q k).getD q 0 = k := by rw [getD_set (by omega), if_pos rfl]
      rw [hgt]
      simp only [delLs_nil]
      refine s_kid (h := h) (by omega) hx hy hq4 (.inl ⟨keep_none _ _, _, _, _, rfl, ?_⟩)
      have ok1 : NdOK nd1 := leafOK LOK.nil (by simp) (by omega)
      have hfm : (freeL m).length = l.length + 1 := by rw [hf]; rfl
      refine ih (L := []) (T := []) (by omega) rfl (hx.kid (by omega) (by omega)) (hy.kid (by omega) (by omega)) (by simp) g2 (hD.set ⟨hx4.2.1, hx4.2.2.1⟩ ok1) LOK.nil (TrP_nil setM_same) (by simp) hpo hpr (by simp) (fun _ m3 T3 H3 f1 f2 f3 f4 D3 g3 m3' => .inl ⟨keep_none _ _, rfl, ?_⟩) fun hlt H3 m3 => by rw [hi1, nds_small (by simp)] at hlt; omega
      have hR := (Rpl.fresh hf (d := nd1)).trans f2
      rw [e1] at fin
      have hC : Chg m m3 (h + nch 0) := by
        obtain ⟨D, d1, d2⟩ := f4
        refine ⟨D, d1, fun i hi a b => ?_⟩
        have hik : i ≠ k := by rintro rfl; exact a hx4.1
        have := d2 i hi (by rw [setM_ne hik]; exact a) b
        rw [setM_ne hik] at this; exact this
      refine fin m3 (k :: T3) k _ H3 _ _ (by rw [e4]; exact hR) (.inr ⟨fun e => by have := insP_len [] p; rw [e] at this; simp at this, by omega, by rw [insP_len], f1⟩) (fun _ i hi => by rw [e4] at hi; cases hi) hC (by have : nch 0 = 1 := rfl; omega) D3 g3 (((GMod.of_le hle1).trans m2).trans m3') (.inr (m2.trans m3')) ⟨hx4.2.1, hx4.2.2.1⟩ (by omega) (by rw [e3]; rfl) fun H' h => .inl ⟨rfl, h⟩
    · -- one that is there
      refine ⟨rq, br (fun q0 => by exfalso; have q1 : ks.getD q 0 = 0 := eq_of_beq q0; rw [q1] at e2; omega) fun _ => ?_⟩
      rw [nq_some e1] at hdf
      have hks := hqa q hq4
      refine ⟨rq, rq, _, none_le _, rq, ?_⟩
      simp only [delLs_nil]
      obtain ⟨T1, hT1⟩ := TrP_head e4
      obtain ⟨hid4, hn4⟩ := List.nodup_cons.1 hn
      have hnq := (nodup_four.1 hn4).1 q hq4
      refine s_kid (h := h) (by omega) hx hy hq4 (.inl ⟨keep_none _ _, _, _, _, rfl, ?_⟩)
      rw [hT1] at e4 hnq
      refine ih (L := quarter h q L) (T := T1) (by omega) rfl (hx.kid (by omega) (by omega)) (hy.kid (by omega) (by omega)) (by omega) (hg.le hle1) hD (hL.sub List.filter_sublist) e4 hnq hpo hpr hpq (fun hle m3 T3 H3 f1 f2 f3 f4 D3 g3 m3' => .inl ⟨keep_none _ _, rfl, ?_⟩) fun hlt H3 m3 => .inr ⟨_, rfl, k2 (by omega) _ ((GMod.of_le hle1).trans m3)⟩
      have := fin m3 (ks.getD q 0 :: T3) (ks.getD q 0) _ H3 (fun e H' => e = .returned unitV ∧ R (.returned unitV) H' ∨ ∃ c, e = .panicked c ∧ R (.panicked c) H') (IntKind.i64.wrap (cs.getD q 0 + 1)) (by rw [hT1]; exact f2) (.inr ⟨hne, e2, by rw [hQl], f1⟩) (fun hlow i hi => by rw [hT1] at hi; exact f3 hlow i hi) f4 (by omega) D3 g3 ((GMod.of_le hle1).trans m3') (.inr m3') ⟨e2, hks.2.1⟩ (by omega) (by rw [e3, w64 (by omega)]; rfl) fun H' h => .inl ⟨rfl, h⟩
      rw [set_self (by omega)] at this
      exact this
end
end Cr

/- A point is cut out below a node. -/
set_option linter.unusedVariables false
set_option linter.unusedSimpArgs false
namespace Cr
open Go Sx Stb Bt
open Go.Sort (SWO)
open Go.Proofs.Try
set_option maxRecDepth 100000
/-- Is it the same point's Id and place? -/
def mt (p x : Pt) : Bool := x.id == p.id && (x.x == p.x && x.y == p.y)
def cutP (L : List Pt) (p : Pt) : List Pt := L.filter fun x => !mt p x
theorem cutP_perm {l : List Pt} {p : Pt} (hn : (l.map Pt.id).Nodup) {i : Nat} {x : Pt} (hi : l[i]? = some x) (hx : mt p x = true) : (l.eraseIdx i).Perm (l.filter fun x => !mt p x) := by
  induction l generalizing i with
  | nil => simp at hi
  | cons y l ih =>
    rw [List.map_cons, List.nodup_cons] at hn
    have hxi : x.id = p.id := by
      unfold mt at hx
      simp only [Bool.and_eq_true, beq_iff_eq] at hx
      exact hx.1
    cases i with
    | zero =>
      simp at hi
      subst hi
      rw [List.eraseIdx_zero, List.tail_cons, List.filter_cons, hx]
      simp only [Bool.not_true, Bool.false_eq_true, if_false]
      rw [List.filter_eq_self.2]
      intro z hz
      have : z.id ≠ p.id := fun e => hn.1 (by rw [hxi, ← e]; exact List.mem_map_of_mem hz)
      simp [mt, this]
    | succ i =>
      simp only [List.getElem?_cons_succ] at hi
      have hy : mt p y = false := by
        have : y.id ≠ p.id := fun e => hn.1 (by rw [e, ← hxi]; exact List.mem_map_of_mem (List.mem_of_getElem? hi))
        simp [mt, this]
      rw [List.eraseIdx_cons_succ, List.filter_cons, hy]
      exact (ih hn.2 hi).cons y
section
variable {R : Ending → Heap → Prop} {H : Heap}
theorem s_sdel {v : Value} {ty : Nat} {l : List Pt} {i : Nat} (hrow : RowAt H v ty 4 (pts l)) (hi : i < l.length) (hl : l.length ≤ 1000000) (k : ∀ v' H', RowAt H' v' ty 4 (pts (l.eraseIdx i)) → blockOf v' = blockOf v → Mod v H H' → R (.returned v') H') :
    Meets prog 113 [v, vi i, vi ((i : Int) + 1)] H R := by
  obtain ⟨a, c, rfl⟩ := row_val hrow
  have hpl : (pts l).length = l.length := by simp [pts]
  rw [hpl] at hrow k ⊢
  have hcap := (row_len hrow).2
  obtain ⟨A, rfl⟩ : ∃ A, a = some A := by
    obtain ⟨A, e, _⟩ := pr_get (row_slice hrow) (i := i) (p := l[i]) (List.getElem?_eq_getElem hi)
    exact ⟨A, e⟩
  refine spec_of func113 (by kernel_rfl) (fun t h => by cases h) ?_ (vc_sdel (some A) l.length c i ((i : Int) + 1) R H) ?_
  · simp [argsR, SV.rep, SC.rep, one]
  unfold nf_sdel
  have e1 : ((i : Int) + 1).toNat = i + 1 := by omega
  rw [e1, Int.toNat_natCast, Int.toNat_natCast, Nat.sub_zero, Nat.sub_zero, Int.toNat_natCast]
  have hcz : subAddr (some A) c 0 4 = some A := by
    unfold subAddr
    split
    · rfl
    · simp
  have hsp : A.spot = none := by
    obtain ⟨A', e, h0, _⟩ := slice_get (row_slice hrow) (i := i) (e := ptC l[i]) (by simp [pts, List.getElem?_eq_getElem hi])
    cases e; exact h0
  have hlast : ∀ k : Nat, k < c → subAddr (some A) c k 4 = some (A.add (k * 4)) := fun k hk => by
    unfold subAddr
    rw [if_neg (by omega)]
    rfl
  refine ⟨⟨by omega, by omega⟩, ⟨by omega, by omega⟩, ⟨by omega, by omega⟩, br (fun q => by simp at q; omega) fun _ => ?_⟩
  refine ⟨⟨by omega, by omega⟩, ⟨by omega, by omega⟩, by omega, pts (l.drop (i + 1)), ?_, ?_⟩
  · have := slice_suf (row_slice hrow) (lo := i + 1) (by omega)
    simpa [pts] using this
  rw [hcz]
  have hn1 : i + (l.length - (i + 1)) = l.length - 1 := by omega
  rw [hn1, hlast (l.length - 1) (by omega)]
  have herase : l.eraseIdx i = l.take i ++ l.drop (i + 1) := List.eraseIdx_eq_take_drop_succ ..
  have hsub1 : l.length - (l.length - 1) = 1 := by omega
  rw [hsub1]
  have z1 : (List.replicate 1 [vi 0, .int .u32 0, .int .u32 0, .string { data := #[] }]).length = 1 := rfl
  -- the last one is cleared
  have clear : ∀ {H1 : Heap} {x : Pt}, RowAt H1 (.slice (some A) l.length c) ty 4 (pts (l.take i ++ l.drop (i + 1)) ++ pts [x]) → Mod (.slice (some A) l.length c) H H1 →
      ∃ A', ∃ (c_1 : Array Value), ∃ ty', some (A.add ((l.length - 1) * 4)) = some A' ∧ (H1 A'.block = some (.cells c_1 ty' (0, 0)) ∧ A'.spot = none ∧ A'.off + 1 * 4 ≤ c_1.size) ∧ R (.returned (.slice (some A) (l.length - 1) c)) (H1.upd A'.block (.cells (writeCells c_1 A'.off (List.replicate 1 [vi 0, .int .u32 0, .int .u32 0, .string { data := #[] }]).flatten) ty' (0, 0))) := by
    intro H1 x hr hm
    have hl1 : (pts (l.take i ++ l.drop (i + 1))).length = l.length - 1 := by simp [pts]; omega
    obtain ⟨cl, ⟨g1, g2, g3⟩, g4, g5⟩ := row_fill hr (ws := List.replicate 1 [vi 0, .int .u32 0, .int .u32 0, .string { data := #[] }]) (by simp [pts]) (by intro e he; rw [List.eq_of_mem_replicate he]; rfl) (by intro e he x hx; rw [List.eq_of_mem_replicate he] at hx; simp at hx; rcases hx with rfl | rfl | rfl | rfl <;> rfl)
    rw [hl1] at g3 g4 g5
    rw [z1] at g3
    refine ⟨_, cl, ty, rfl, ?_, ?_⟩
    · rw [add_spot hsp]
      exact ⟨g1, rfl, g3⟩
    · rw [add_spot hsp]
      have := row_prefix g4
      rw [hl1] at this
      have hb : (Value.slice (some A) (l.length - 1) c) = .slice (some A) (pts (l.eraseIdx i)).length c := by rw [herase, hl1]
      refine k _ _ ?_ rfl (hm.trans g5)
      rw [herase]; exact this
  by_cases hlt : i + 1 = l.length
  · refine .inl ⟨by rw [List.drop_of_length_le (by omega)]; rfl, ⟨by omega, by omega⟩, ⟨by omega, by omega⟩, .inr ?_⟩
    refine clear (x := l[i]) ?_ (Mod.refl _ _)
    have : pts (l.take i ++ l.drop (i + 1)) ++ pts [l[i]] = pts l := by
      rw [List.drop_of_length_le (by omega), List.append_nil, ← List.map_append]
      congr 1
      conv => rhs; rw [← List.take_append_drop i l, List.drop_eq_getElem_cons hi, List.drop_of_length_le (by omega : l.length ≤ i + 1)]
    rw [this]; exact hrow
  · have hdl : (l.drop (i + 1)).length = l.length - (i + 1) := by simp
    have hsplit : pts l = pts (l.take i) ++ pts ((l.drop i).take (l.length - (i + 1))) ++ pts [l[l.length - 1]] := by
      rw [← List.map_append, ← List.map_append]
      congr 1
      conv => lhs; rw [← List.take_append_drop i l]
      rw [List.append_assoc]
      congr 1
      conv => lhs; rw [← List.take_append_drop (l.length - (i + 1)) (l.drop i)]
      congr 1
      rw [List.drop_drop]
      have : i + (l.length - (i + 1)) = l.length - 1 := by omega
      rw [this, List.drop_eq_getElem_cons (by omega), List.drop_of_length_le (by omega)]
    rw [hsplit] at hrow
    obtain ⟨cl, ⟨g1, g2, g3⟩, g4, g5⟩ := row_mid hrow (ws := pts (l.drop (i + 1))) (by simp [pts]; omega) (by intro e he; obtain ⟨p, _, rfl⟩ := List.mem_map.1 he; rfl) (by intro e he; obtain ⟨p, _, rfl⟩ := List.mem_map.1 he; exact ptC_one p)
    have hl0 : (pts (l.take i)).length = i := by simp [pts]; omega
    rw [hl0] at g3 g4 g5
    refine .inr ⟨A, cl, ty, rfl, ⟨g1, g2, g3⟩, ⟨by omega, by omega⟩, ⟨by omega, by omega⟩, .inr ?_⟩
    refine clear (x := l[l.length - 1]) ?_ g5
    rw [show pts (l.take i ++ l.drop (i + 1)) = pts (l.take i) ++ pts (l.drop (i + 1)) from List.map_append ..]
    exact g4
theorem s_total {v : Value} {d : Nd} (h : NdAt H v d) (hl : d.pts.length ≤ 1000000) (hs : d.leaf = false → QuaOK d.kids d.counts) (k : R (.returned (vi (if d.leaf then (d.pts.length : Int) else d.counts.getD 0 0 + d.counts.getD 1 0 + d.counts.getD 2 0 + d.counts.getD 3 0))) H) :
    Meets prog 106 [v] H R := by
  obtain ⟨a, n, c, rfl, h1, h2, h3⟩ := h
  have hln : d.pts.length = n := by simpa [pts] using (slice_len h1).1
  refine spec_of func106 (by kernel_rfl) (fun t h => by cases h) ?_ (vc_total d.leaf a n c d.next d.kids d.counts R H) ?_
  · simp [argsR, SV.rep, SegsRep, SC.rep, one, h2, h3]
  unfold nf_total
  refine br (fun q => ?_) fun q => ?_
  · rw [if_pos q, hln] at k; exact k
  · rw [if_neg (by simp [q])] at k
    have hq := hs q
    have := hq 0 (by omega); have := hq 1 (by omega); have := hq 2 (by omega); have := hq 3 (by omega)
    rw [w64 (k := d.counts.getD 0 0 + d.counts.getD 1 0) (by omega), w64 (k := d.counts.getD 0 0 + d.counts.getD 1 0 + d.counts.getD 2 0) (by omega), w64 (by omega)]
    exact ⟨⟨by omega, by omega⟩, ⟨by omega, by omega⟩, ⟨by omega, by omega⟩, ⟨by omega, by omega⟩, k⟩
theorem pred_cut1 {b : Nat} {p : Pt} : PredOK (fun _ => True) (fun H => H b = some (.cells #[vi p.id, .int .u32 p.x, .int .u32 p.y, .string p.data] 28 (0, 0))) 110 #[.pointer (some ⟨b, 0, none⟩)] (mt p) := by
  intro x H R _ hI k
  refine spec_of func110 (by kernel_rfl) (fun t h => by cases h) ?_ (vc_cut1 ⟨b, 0, none⟩ x.id x.x x.y x.data R H) ?_
  · simp [argsR, SV.rep, SegsRep, SC.rep, one]
  unfold nf_cut1
  have hc := has_cells hI
  unfold mt at k
  refine ptr rfl (ptr rfl ⟨_, has_one hc rfl rfl, br (fun q => ?_) fun q => ?_⟩)
  · refine ptr rfl (ptr rfl ⟨_, has_one hc rfl rfl, br (fun q1 => ?_) fun q1 => ?_⟩)
    · refine ptr rfl (ptr rfl ⟨_, has_one hc rfl rfl, ?_⟩)
      rw [q, q1] at k; exact k
    · rw [q, q1] at k; exact k
  · rw [q] at k; exact k
theorem quarter_cutP {L : List Pt} {p : Pt} {h j : Nat} : quarter h j (cutP L p) = cutP (quarter h j L) p := by
  unfold quarter cutP
  rw [List.filter_filter, List.filter_filter]
  exact List.filter_congr fun x _ => Bool.and_comm _ _
theorem mt_qt {p x : Pt} {h : Nat} (e : mt p x = true) : qt h x = qt h p := by
  unfold mt at e
  simp only [Bool.and_eq_true, beq_iff_eq] at e
  unfold qt
  rw [e.2.1, e.2.2]
theorem cutP_off {L : List Pt} {p : Pt} (h : ∀ x ∈ L, mt p x = false) : cutP L p = L := List.filter_eq_self.2 fun x hx => by rw [h x hx]; rfl
theorem cutP_len {L : List Pt} {p : Pt} (hr : L.Pairwise fun p q => p.id < q.id) (h : ∃ x ∈ L, mt p x = true) : (cutP L p).length + 1 = L.length := by
  obtain ⟨x, hx, hm⟩ := h
  obtain ⟨i, hi⟩ := List.mem_iff_getElem?.1 hx
  have := (cutP_perm (rise_nodup hr) hi hm).length_eq
  have hil := (List.getElem?_eq_some_iff.1 hi).1
  unfold cutP
  rw [← this, List.length_eraseIdx_of_lt hil]
  omega
theorem sum_quarters {h : Nat} {L : List Pt} (hr : ∀ p ∈ L, PtR p) : (quarter h 0 L).length + (quarter h 1 L).length + (quarter h 2 L).length + (quarter h 3 L).length = L.length := by
  have := (quarters_perm (h := h) hr).length_eq
  simp only [List.length_append] at this
  omega
theorem s_cut_small {h : Nat} {g : Addr} {r : Nat} {m : M} {id x y lv : Int} {p : Pt} {L : List Pt} {T : List Int} {d : Nd} (hd : m id = some d) (hsm : d.leaf = true ∨ (d.leaf = false ∧ d.counts.getD 0 0 + d.counts.getD 1 0 + d.counts.getD 2 0 + d.counts.getD 3 0 ≤ 5)) (hh : h ≤ 32) (hlv : lv = 32 - (h : Int)) (hx : Cor h x) (hy : Cor h y)
    (hbig : L.length ≤ 50000) (hg : GroveAt H g r m) (hD : Dom m) (hL : LOK L) (ht : TrP m h id L (id :: T)) (hn : (id :: T).Nodup) (hpr : PtR p)
    (k1 : (∃ x ∈ L, mt p x = true) → ∀ m' T' H', TrP m' h id (cutP L p) (id :: T') → Rpl m m' (id :: T) (id :: T') → Dom m' → GroveAt H' g r m' → GMod r H H' → R (.returned unitV) H')
    (k2 : (∀ x ∈ L, mt p x = false) → ∀ H', GMod r H H' → R (.panicked (stopE 14)) H') :
    Meets prog 76 [grV (some g), vi id, ceV x y lv, ptV p] H R := by
  refine spec_of func76 (by kernel_rfl) (fun t h => by cases h) ?_ (vc_cut (some g) id x y lv p.id p.x p.y p.data R H) ?_
  · simp [argsR, SV.rep, SegsRep, SC.rep, one]
  unfold nf_cut
  have hfew := hD.few hd
  have hdd := hD id d hd
  have hok := hdd.2.2
  unfold NdOK at hok
  refine s_gget hg hd (by omega) (fun d' e => by rw [hd] at e; cases e; omega) fun v H1 hle1 hv1 => ?_
  have hv1' := hv1
  obtain ⟨a, n, c, rfl, hs1, hk, hc⟩ := hv1
  refine .inl ⟨_, a, n, c, _, _, hk, _, hc, rfl, ?_⟩
  have quar : ∀ (R' : Ending → Heap → Prop), (∀ n : Int, R' (.returned (vi n)) H1) → Meets prog 94 [ceV x y lv, .int .u32 p.x, .int .u32 p.y] H1 R' := fun R' hR' => by
    subst hlv
    cases h with
    | zero => exact s_quar0 (hx.lt (by omega)) (hy.lt (by omega)) (hR' _)
    | succ h => exact s_quar (h := h) (by omega) (hx.lt (by omega)) (hy.lt (by omega)) ⟨hpr.1, hpr.2.1⟩ ⟨hpr.2.2.1, hpr.2.2.2⟩ (hR' _)
  refine quar _ fun n0 => .inl ⟨_, rfl, ?_⟩
  obtain ⟨L', hperm, hF⟩ := TrP_FT hD hL.range ht
  have hlen := dom_len hD hn (TrP_there ht)
  have hpl := hperm.length_eq
  have hnd' : (L'.map Pt.id).Nodup := (hperm.map Pt.id).nodup_iff.2 (rise_nodup hL.rise)
  obtain ⟨r1, r2⟩ := regrow (cutP L p) ht hn hD
  have hsub : nds h (cutP L p) ≤ nds h L := nds_mono List.filter_sublist
  simp only [delLs_nil]
  refine br (fun q => ?A) fun q => s_total hv1' (by omega) (fun e => by rw [if_neg (by simp [e])] at hok; exact hok.2.2) (.inl ⟨_, rfl, br (fun q2 => ?B) fun q2 => ?C⟩)
  case C =>
    exfalso
    rcases hsm with e | ⟨e, e2⟩
    · rw [e] at q; cases q
    · rw [if_neg (by simp [e])] at q2
      rw [if_neg (by simp [e])] at hok
      have hq := hok.2.2
      have := hq 0 (by omega); have := hq 1 (by omega); have := hq 2 (by omega); have := hq 3 (by omega)
      simp only [decide_eq_false_iff_not] at q2
      rw [w64 (by omega)] at q2
      omega
  case A | B =>
    refine s_fell _ (Nat.le_refl _) (hg.le hle1) hD hF hn (by omega) (by omega) (by omega) fun v2 H2 hg2 hm2 hfr2 hrow2 => ?_
    simp only [List.tail_cons] at hg2
    obtain ⟨a2, c2, rfl⟩ := row_val hrow2
    refine .inl ⟨_, _, _, rfl, fun b hb => ?_⟩
    have hv2 : ∀ b', blockOf (.slice a2 (pts L').length c2) = some b' → b' ≠ b := fun b' e => by
      rintro rfl
      rcases hrow2 with ⟨e1, _⟩ | ⟨b2, o, cap, cc, e1, e2, _⟩
      · rw [e1] at e; cases e
      · rw [e1] at e; cases e; rw [e2] at hb; cases hb
    have e0 : ∀ (o : Obj), (H2.upd b o).delO (blockOf (.pointer (some ⟨b, 0, none⟩))) = H2 := fun o => upd_del hb
    refine s_idx pred_cut1 (slice_le (row_slice hrow2) (upd_le hb)) (upd_same _ _ _) (fun _ _ => trivial) (by omega) (fun i hi => ?_) fun hno => ?_
    · refine .inl ⟨_, rfl, _, _, _, _, ⟨b, rfl, upd_same _ _ _⟩, ?_⟩
      rw [e0]
      rw [List.findIdx?_eq_some_iff_getElem] at hi
      obtain ⟨hil, hmi, _⟩ := hi
      have hgi : L'[i]? = some L'[i] := List.getElem?_eq_getElem hil
      have hex : ∃ x ∈ L, mt p x = true := ⟨L'[i], hperm.subset (List.getElem_mem hil), hmi⟩
      refine s_need (fun _ => .inl ⟨rfl, _, none_le _, ?_⟩) fun q => by simp at q
      rw [w64 (by omega)]
      refine s_sdel hrow2 hil (by omega) fun v3 H3 hrow3 hbl hmod => ?_
      obtain ⟨a3, c3, rfl⟩ := row_val hrow3
      have hg3 : GroveAt H3 g r (delsM m T) := by
        rw [← row_del_eq hmod] at hg2
        exact hg2.le (delO_le _ _)
      have hm3 : GMod r H H3 := by
        rw [← row_del_eq hmod] at hm2
        exact ((GMod.of_le (r := r) hle1).trans hm2).trans (GMod.of_le (r := r) (delO_le _ _))
      have hsrt : sortP (L'.eraseIdx i) = cutP L p := by
        have h1 := cutP_perm hnd' hgi hmi
        exact sortP_perm (hL.rise.sublist List.filter_sublist) (h1.trans (hperm.filter _))
      refine .inl ⟨keep_none _ _, _, _, _, rfl, ?_⟩
      refine s_again (h := h) hh hlv hx hy (by have := List.length_eraseIdx_le L' i; omega) hg3 (hD.dels T) (by rw [hsrt]; exact hL.sub List.filter_sublist) (row_slice hrow3) ⟨hdd.1, hdd.2.1⟩ (fun m' H4 e4 D4 g4 m4 => .inl ⟨keep_none _ _, rfl, ?_⟩) fun e4 H4 m4 => ?_
      · rw [hsrt] at e4
        obtain ⟨m'', T', f1, f2, f3, f4, f5⟩ := r1 (by omega)
        rw [f1] at e4; cases e4
        exact k1 hex _ T' H4 f2 f3 D4 g4 (hm3.trans m4)
      · rw [hsrt] at e4
        obtain ⟨m'', T', f1, _⟩ := r1 (by omega)
        rw [f1] at e4; cases e4
    · refine .inl ⟨_, rfl, _, _, _, _, ⟨b, rfl, upd_same _ _ _⟩, ?_⟩
      rw [e0]
      refine s_need (fun q => by simp at q) fun _ => .inr ⟨_, rfl, k2 (fun x hx => ?_) _ (((GMod.of_le (r := r) hle1).trans hm2).trans (GMod.of_le (r := r) (delO_le _ _)))⟩
      exact List.findIdx?_eq_none_iff.1 hno x (hperm.symm.subset hx)
/-- A point is cut out below a node. -/
theorem s_cut : ∀ (h : Nat) {g : Addr} {r : Nat} {m : M} {id x y lv : Int} {p : Pt} {L : List Pt} {T : List Int} {H : Heap} {R : Ending → Heap → Prop}, h ≤ 32 → lv = 32 - (h : Int) → Cor h x → Cor h y → L.length ≤ 50000 → GroveAt H g r m → Dom m → LOK L → TrP m h id L (id :: T) → (id :: T).Nodup → PtR p →
    ((∃ x ∈ L, mt p x = true) → ∀ m' T' H', TrP m' h id (cutP L p) (id :: T') → Rpl m m' (id :: T) (id :: T') → Dom m' → GroveAt H' g r m' → GMod r H H' → R (.returned unitV) H') →
    ((∀ x ∈ L, mt p x = false) → ∀ H', GMod r H H' → R (.panicked (stopE 14)) H') →
    Meets prog 76 [grV (some g), vi id, ceV x y lv, ptV p] H R := by
  intro h
  induction h with
  | zero =>
    intro g r m id x y lv p L T H R hh hlv hx hy hbig hg hD hL ht hn hpr k1 k2
    obtain ⟨d, hd, hlf⟩ : ∃ d, m id = some d ∧ d.leaf = true := by
      obtain ⟨_, hc⟩ := ht
      cases T with
      | nil => exact ⟨_, hc.2, rfl⟩
      | cons a b => exact ⟨_, hc.2.1, rfl⟩
    exact s_cut_small hd (.inl hlf) hh hlv hx hy hbig hg hD hL ht hn hpr k1 k2
  | succ h ih =>
    intro g r m id x y lv p L T H R hh hlv hx hy hbig hg hD hL ht hn hpr k1 k2
    by_cases hl4 : L.length ≤ 4
    · obtain ⟨d, hd, hlf⟩ : ∃ d, m id = some d ∧ d.leaf = true := by
        unfold TrP at ht
        rw [if_pos hl4] at ht
        obtain ⟨e, hc⟩ := ht
        cases e
        exact ⟨_, hc.2, rfl⟩
      exact s_cut_small hd (.inl hlf) hh hlv hx hy hbig hg hD hL ht hn hpr k1 k2
    have ht0 := ht
    unfold TrP at ht
    rw [if_neg hl4] at ht
    obtain ⟨ks, cs, J, h1, hk4, hc4, hT, hJ⟩ := ht
    cases hT
    have hcsq : ∀ q, q < 4 → cs.getD q 0 = ((quarter h q L).length : Int) := fun q hq => by
      rcases hJ q hq with ⟨e1, _, e3, _⟩ | ⟨_, _, e3, _⟩
      · rw [e1, e3]; rfl
      · exact e3
    have hsum := sum_quarters (h := h) hL.range
    have hsum' : cs.getD 0 0 + cs.getD 1 0 + cs.getD 2 0 + cs.getD 3 0 = (L.length : Int) := by
      rw [hcsq 0 (by omega), hcsq 1 (by omega), hcsq 2 (by omega), hcsq 3 (by omega)]; omega
    by_cases hl5 : L.length ≤ 5
    · exact s_cut_small h1 (.inr ⟨rfl, by simp only; omega⟩) hh hlv hx hy hbig hg hD hL ht0 hn hpr k1 k2
    have hdd := hD id _ h1
    have hqa : QuaOK ks cs := by
      have := hdd.2.2
      unfold NdOK at this
      rw [if_neg (by simp)] at this
      exact this.2.2
    refine spec_of func76 (by kernel_rfl) (fun t h => by cases h) ?_ (vc_cut (some g) id x y lv p.id p.x p.y p.data R H) ?_
    · simp [argsR, SV.rep, SegsRep, SC.rep, one]
    unfold nf_cut
    refine s_gget hg h1 (by simp) (fun d' e => by rw [h1] at e; cases e; simp) fun v H1 hle1 hv1 => ?_
    have hv1' := hv1
    obtain ⟨a, n, c, rfl, hs1, hk, hc⟩ := hv1
    refine .inl ⟨_, a, n, c, _, _, hk, _, hc, rfl, ?_⟩
    subst hlv
    obtain ⟨q, hqq, hq4⟩ : ∃ q : Nat, qt h p = (q : Int) ∧ q < 4 := ⟨(qt h p).toNat, by have := qt_range (h := h) (p := p); omega, by have := qt_range (h := h) (p := p); omega⟩
    refine s_quar (h := h) (by omega) (hx.lt (by omega)) (hy.lt (by omega)) ⟨hpr.1, hpr.2.1⟩ ⟨hpr.2.2.1, hpr.2.2.2⟩ (.inl ⟨_, rfl, ?_⟩)
    have hqq' : p.x / 2 ^ h % 2 + 2 * (p.y / 2 ^ h % 2) = (q : Int) := hqq
    rw [hqq', Int.toNat_natCast]
    have rq : (0 : Int) ≤ (q : Int) ∧ (q : Int) < (4 : Int) := ⟨by omega, by omega⟩
    refine br (fun q0 => by cases q0) fun _ => s_total hv1' (by simp) (fun _ => hqa) (.inl ⟨_, rfl, br (fun q2 => ?_) fun _ => ?_⟩)
    · exfalso
      simp only [Bool.false_eq_true, if_false, decide_eq_true_eq] at q2
      rw [hsum', w64 (by omega)] at q2
      omega
    have hmatch : ∀ x ∈ L, mt p x = true → x ∈ quarter h q L := fun x hx e => List.mem_filter.2 ⟨hx, by rw [mt_qt e, hqq]; simp⟩
    have hCn : ∀ j, j < 4 → j ≠ q → quarter h j (cutP L p) = quarter h j L := fun j hj hne => by
      rw [quarter_cutP]
      refine cutP_off fun x hx => ?_
      have hx' := (List.mem_filter.1 hx).2
      cases e : mt p x with
      | false => rfl
      | true =>
        rw [mt_qt e, hqq] at hx'
        simp only [beq_iff_eq, Int.natCast_inj] at hx'
        exact absurd hx'.symm hne
    simp only [delLs_nil]
    refine ⟨rq, s_need (fun q1 => .inl ⟨rfl, ?_⟩) fun q1 => .inr ⟨_, rfl, k2 (fun x hx => ?_) _ (GMod.of_le hle1)⟩⟩
    rotate_left
    · -- nothing stands there
      simp only [decide_eq_false_iff_not] at q1
      rcases hJ q hq4 with ⟨e1, _⟩ | ⟨_, e2, _⟩
      · cases e : mt p x with
        | false => rfl
        | true => have := hmatch x hx e; rw [e1] at this; cases this
      · omega
    simp only [decide_eq_true_eq] at q1
    refine s_need (fun _ => .inl ⟨rfl, rq, rq, _, none_le _, rq, ?_⟩) fun q => by simp at q; omega
    rcases hJ q hq4 with ⟨_, e2, _⟩ | ⟨e1, e2, e3, e4⟩
    · omega
    have hks := hqa q hq4
    obtain ⟨T1, hT1⟩ := TrP_head e4
    obtain ⟨hid4, hn4⟩ := List.nodup_cons.1 hn
    have hnq := (nodup_four.1 hn4).1 q hq4
    have hqle : (quarter h q L).length ≤ L.length := List.length_filter_le _ _
    have hqpos : 0 < (quarter h q L).length := List.length_pos_iff.2 e1
    have hrq := hL.rise.sublist (List.filter_sublist (p := fun p => qt h p == (q : Int)) (l := L))
    have hwc : IntKind.i64.wrap (cs.getD q 0 - 1) = (((quarter h q L).length - 1 : Nat) : Int) := by rw [e3, w64 (by omega)]; omega
    rw [hwc]
    have hsl : ∀ H2 : Heap, SliceAt H2 (.slice a n c) 4 (pts []) := fun H2 => by
      obtain ⟨hl0, _⟩ := slice_len hs1
      simp only [pts, List.map_nil, List.length_nil] at hl0
      subst hl0
      obtain ⟨a', n', c', e, q1, q2, _⟩ := hs1
      cases e
      exact ⟨_, _, _, rfl, rfl, q2, by simp, by simp, by simp⟩
    refine s_kid (h := h) (by omega) hx hy hq4 (.inl ⟨keep_none _ _, _, _, _, rfl, ?_⟩)
    rw [hT1] at e4 hnq
    refine ih (L := quarter h q L) (T := T1) (by omega) rfl (hx.kid (by omega) (by omega)) (hy.kid (by omega) (by omega)) (by omega) (hg.le hle1) hD (hL.sub List.filter_sublist) e4 hnq hpr (fun hex m3 T3 H3 f1 f2 D3 g3 m3' => .inl ⟨keep_none _ _, rfl, rq, ?_⟩) fun hno H3 m3 => .inr ⟨_, rfl, k2 (fun x hx => ?_) _ ((GMod.of_le hle1).trans m3)⟩
    rotate_left
    · cases e : mt p x with
      | false => rfl
      | true => have := hno x (hmatch x hx e); rw [e] at this; cases this
    have hexL : ∃ x ∈ L, mt p x = true := by
      obtain ⟨x, hx, e⟩ := hex
      exact ⟨x, (List.mem_filter.1 hx).1, e⟩
    have hcl := cutP_len hL.rise hexL
    have hclq : (cutP (quarter h q L) p).length + 1 = (quarter h q L).length := cutP_len hrq hex
    have hgd : (cs.set q (((quarter h q L).length - 1 : Nat) : Int)).getD q 0 = (((quarter h q L).length - 1 : Nat) : Int) := by rw [getD_set (by omega), if_pos rfl]
    rw [hgd]
    have hGM := (GMod.of_le (r := r) hle1).trans m3'
    have hC : Chg m m3 255 := by
      refine ⟨numsL, by simp, fun i hi a b => ?_⟩
      exfalso
      cases e : m i with
      | none => exact a e
      | some d => have := hD i d e; exact hi (mem_numsL.2 ⟨this.1, this.2.1⟩)
    refine br (fun q5 => ?_) fun q5 => ?_
    · -- the quarter has nothing any more
      have hq5 : (quarter h q L).length - 1 = 0 := by
        have := eq_of_beq q5
        omega
      have hc0 : cutP (quarter h q L) p = [] := List.length_eq_zero_iff.1 (by omega)
      rw [hc0] at f1
      have hT3 : T3 = [] := by
        have := TrP_len f1
        rw [nds_small (by simp)] at this
        simpa using this
      subst hT3
      have hth := TrP_there f1 _ (List.mem_cons_self ..)
      refine ⟨_, none_le _, rq, s_drop g3 fun H4 g4 m4 => .inl ⟨keep_none _ _, _, rfl, rq, ?_⟩⟩
      have hR := f2.trans (Rpl.drop hth ⟨e2, hks.2.1⟩)
      obtain ⟨T', u1, u2, _, _⟩ := inner_upd (L' := cutP L p) (k' := 0) (c' := 0) h1 hk4 hc4 hn hJ hq4 (by rw [hT1]; exact hR) (.inl ⟨by rw [quarter_cutP, hc0], rfl, rfl, rfl⟩) hCn (by omega) (n := 255) (by
        refine ⟨numsL, by simp, fun i hi a b => ?_⟩
        exfalso
        cases e : m i with
        | none => exact a e
        | some d => have := hD i d e; exact hi (mem_numsL.2 ⟨this.1, this.2.1⟩))
      have ok : NdOK ⟨false, [], 0, ks.set q 0, cs.set q 0⟩ := innerOK (quaOK_set hqa hk4 hc4 hq4 ⟨by omega, by omega, by omega, by omega, by omega⟩)
      have : (((quarter h q L).length - 1 : Nat) : Int) = 0 := by omega
      rw [this]
      refine s_gput (d := ⟨false, [], 0, ks.set q 0, cs.set q 0⟩) g4 ⟨a, n, c, rfl, hsl _, by simpa using hk4, by simpa using hc4⟩ ok ⟨hdd.1, hdd.2.1⟩ (by simp) fun H' g5 m5 => .inl ⟨rfl, k1 hexL _ T' H' u1 u2 ((D3.del).set ⟨hdd.1, hdd.2.1⟩ ok) g5 ((hGM.trans m4).trans m5)⟩
    · have hq5 : (quarter h q L).length - 1 ≠ 0 := fun e => by rw [e] at q5; simp at q5
      have hne : cutP (quarter h q L) p ≠ [] := fun e => by rw [e] at hclq; simp at hclq; omega
      obtain ⟨T', u1, u2, _, _⟩ := inner_upd (L' := cutP L p) (k' := ks.getD q 0) (c' := (((quarter h q L).length - 1 : Nat) : Int)) h1 hk4 hc4 hn hJ hq4 (by rw [hT1]; exact f2) (.inr ⟨by rw [quarter_cutP]; exact hne, e2, by rw [quarter_cutP]; omega, by rw [quarter_cutP]; exact f1⟩) hCn (by omega) hC
      rw [set_self (by omega)] at u1 u2
      have ok : NdOK ⟨false, [], 0, ks, cs.set q (((quarter h q L).length - 1 : Nat) : Int)⟩ := by
        have := quaOK_set hqa hk4 hc4 hq4 (k := ks.getD q 0) (c := (((quarter h q L).length - 1 : Nat) : Int)) ⟨by omega, by omega, by omega, by omega, by omega⟩
        rw [set_self (by omega)] at this
        exact innerOK this
      refine s_gput (d := ⟨false, [], 0, ks, cs.set q (((quarter h q L).length - 1 : Nat) : Int)⟩) g3 ⟨a, n, c, rfl, hsl _, hk4, by simpa using hc4⟩ ok ⟨hdd.1, hdd.2.1⟩ (by simp) fun H' g5 m5 => .inl ⟨rfl, k1 hexL _ T' H' u1 u2 (D3.set ⟨hdd.1, hdd.2.1⟩ ok) g5 (hGM.trans m5)⟩
end
end Cr

/- The reference's tree: shapes, levels. -/
set_option linter.unusedVariables false
set_option linter.unusedSimpArgs false
namespace Cr
open Go Sx Stb Bt
open Go.Proofs.Try
set_option maxRecDepth 100000
def h_pick : Hints := { loops := [(3, ⟨[0, 1, 2], [.row 7 28 4, .f 8 (.int .i64)], []⟩)] }
def h_rshape : Hints := { loops := [(7, ⟨[0, 1], [.row 5 3 1, .f 6 (.int .i64)], []⟩)] }
def h_rlev : Hints := { deep := true, loops := [(5, ⟨[0, 1, 2], [.f 6 (.int .i64)], []⟩)] }
def h_rlevs : Hints := { loops := [(4, ⟨[0, 3], [.f 4 (.int .i64)], [.keep 3]⟩)] }
def nf_rqua (i : Int) (x : Int) (y : Int) (d : ByteArray) (lv : Int) (R : Ending → Heap → Prop) (H : Heap) : Prop := (0 : Int) ≤ IntKind.wrap IntKind.u64 (IntKind.wrap IntKind.i64 ((31 : Int) - lv)) ∧ (2 : Int) ≠ (0 : Int) ∧ (0 : Int) ≤ IntKind.wrap IntKind.u64 (IntKind.wrap IntKind.i64 ((31 : Int) - lv)) ∧ (2 : Int) ≠ (0 : Int) ∧ R (Ending.returned (Value.int IntKind.i64 (IntKind.wrap IntKind.i64 (IntKind.wrap IntKind.u32 (Int.tmod (shrI IntKind.u32 x (IntKind.wrap IntKind.u64 (IntKind.wrap IntKind.i64 ((31 : Int) - lv)))) (2 : Int) + IntKind.wrap IntKind.u32 ((2 : Int) * Int.tmod (shrI IntKind.u32 y (IntKind.wrap IntKind.u64 (IntKind.wrap IntKind.i64 ((31 : Int) - lv)))) (2 : Int))))))) H
theorem vc_rqua (i : Int) (x : Int) (y : Int) (d : ByteArray) (lv : Int) (R : Ending → Heap → Prop) (H : Heap) : vcFun prog { } f126 [ptA i x y d, SV.c (SC.v (Value.int IntKind.i64 lv))] R H = nf_rqua i x y d lv R H := by kernel_rfl

def nf_pick (a : Option Addr) (n : Nat) (c : Nat) (lv : Int) (q : Int) (R : Ending → Heap → Prop) (H : Heap) : Prop := a = a ∧ n = n ∧ c = c ∧ lv = lv ∧ q = q ∧ LoopP (fun (K : (List (List Value) × Int × PUnit) × PUnit → (Nat → Option Obj) → Prop) (p : (List (List Value) × Int × PUnit) × PUnit) (H : Nat → Option Obj) ↦ Br (decide (p.fst.snd.fst < (↑n : Int))) (((0 : Int) ≤ p.fst.snd.fst ∧ p.fst.snd.fst < (↑n : Int)) ∧ PtrK a fun (A : Addr) ↦ PtrK (some (Addr.add A (Int.toNat p.fst.snd.fst * (4 : Nat)))) fun (a_1 : Addr) ↦ ∃ (n_1 : Int), ∃ (n_2 : Int), ∃ (n_3 : Int), ∃ (s : ByteArray), Heap.has H a_1 [Value.int IntKind.i64 n_1, Value.int IntKind.u32 n_2, Value.int IntKind.u32 n_3, Value.string s] ∧ Meets prog (126 : Nat) [Value.agg { toList := [Value.int IntKind.i64 n_1, Value.int IntKind.u32 n_2, Value.int IntKind.u32 n_3, Value.string s] }, Value.int IntKind.i64 lv] H fun (e : Ending) (H' : Nat → Option Obj) ↦ ∃ (n_4 : Int), e = Ending.returned (Value.int IntKind.i64 n_4) ∧ Br (n_4 == q) (((0 : Int) ≤ p.fst.snd.fst ∧ p.fst.snd.fst < (↑n : Int)) ∧ PtrK a fun (A : Addr) ↦ PtrK (some (Addr.add A (Int.toNat p.fst.snd.fst * (4 : Nat)))) fun (a_2 : Addr) ↦ ∃ (n_5 : Int), ∃ (n_6 : Int), ∃ (n_7 : Int), ∃ (s : ByteArray), Heap.has H' a_2 [Value.int IntKind.i64 n_5, Value.int IntKind.u32 n_6, Value.int IntKind.u32 n_7, Value.string s] ∧ List.length (List.append p.fst.fst [[Value.int IntKind.i64 n_5, Value.int IntKind.u32 n_6, Value.int IntKind.u32 n_7, Value.string s]]) * (32 : Nat) ≤ (140737488355328 : Nat) ∧ a = a ∧ n = n ∧ c = c ∧ lv = lv ∧ q = q ∧ K ((List.append p.fst.fst [[Value.int IntKind.i64 n_5, Value.int IntKind.u32 n_6, Value.int IntKind.u32 n_7, Value.string s]], IntKind.wrap IntKind.i64 (p.fst.snd.fst + (1 : Int)), PUnit.unit), PUnit.unit) H') (a = a ∧ n = n ∧ c = c ∧ lv = lv ∧ q = q ∧ K ((p.fst.fst, IntKind.wrap IntKind.i64 (p.fst.snd.fst + (1 : Int)), PUnit.unit), PUnit.unit) H')) (∀ (v : Value) (H' : Nat → Option Obj), H ≤ H' → (∀ (b : Nat), blockOf v = some b → H b = none) → (∀ (b : Nat) (o : Obj), H' b = some o → H b = some o ∨ blockOf v = some b) → RowAt H' v (28 : Nat) (4 : Nat) p.fst.fst → R (Ending.returned v) H')) (([], (0 : Int), PUnit.unit), PUnit.unit) H
theorem vc_pick (a : Option Addr) (n : Nat) (c : Nat) (lv : Int) (q : Int) (R : Ending → Heap → Prop) (H : Heap) : vcFun prog h_pick f98 [SV.c (SC.v (Value.slice a n c)), SV.c (SC.v (Value.int IntKind.i64 lv)), SV.c (SC.v (Value.int IntKind.i64 q))] R H = nf_pick a n c lv q R H := by kernel_rfl

def nf_rshape (a : Option Addr) (n : Nat) (c : Nat) (lv : Int) (R : Ending → Heap → Prop) (H : Heap) : Prop := Br (decide ((↑n : Int) ≤ (4 : Int))) (∀ (v : Value) (H' : Nat → Option Obj), H ≤ H' → (∀ (b : Nat), blockOf v = some b → H b = none) → (∀ (b : Nat) (o : Obj), H' b = some o → H b = some o ∨ blockOf v = some b) → RowAt H' v (3 : Nat) (1 : Nat) [[Value.int IntKind.i64 (↑n : Int)]] → R (Ending.returned v) H') (Br (lv == (32 : Int)) (((0 : Int) ≤ (4 : Int) ∧ (4 : Int) ≤ (↑n : Int)) ∧ Meets prog (64 : Nat) [Value.slice (subAddr a c (4 : Nat) (4 : Nat)) (n - (4 : Nat)) (c - (4 : Nat)), Value.int IntKind.i64 (32 : Int)] H fun (e : Ending) (H' : Nat → Option Obj) ↦ ∃ (a : Option Addr), ∃ (n : Nat), ∃ (c : Nat), e = Ending.returned (Value.slice a n c) ∧ ∃ (es2 : List (List Value)), SliceAt H' (Value.slice a n c) (1 : Nat) es2 ∧ List.length ([Value.int IntKind.i64 (4 : Int)] :: es2) * (8 : Nat) ≤ (140737488355328 : Nat) ∧ ∀ (v : Value) (H'_1 : Nat → Option Obj), H' ≤ H'_1 → (∀ (b : Nat), blockOf v = some b → H' b = none) → (∀ (b : Nat) (o : Obj), H'_1 b = some o → H' b = some o ∨ blockOf v = some b) → RowAt H'_1 v (3 : Nat) (1 : Nat) ([Value.int IntKind.i64 (4 : Int)] :: es2) → R (Ending.returned v) H'_1) (a = a ∧ n = n ∧ c = c ∧ lv = lv ∧ LoopP (fun (K : (List (List Value) × Int × PUnit) × PUnit → (Nat → Option Obj) → Prop) (p : (List (List Value) × Int × PUnit) × PUnit) (H : Nat → Option Obj) ↦ Br (decide (p.fst.snd.fst < (4 : Int))) (Meets prog (98 : Nat) [Value.slice a n c, Value.int IntKind.i64 lv, Value.int IntKind.i64 p.fst.snd.fst] H fun (e : Ending) (H' : Nat → Option Obj) ↦ ∃ (a_1 : Option Addr), ∃ (n_1 : Nat), ∃ (c_1 : Nat), e = Ending.returned (Value.slice a_1 n_1 c_1) ∧ Br (decide ((↑n_1 : Int) > (0 : Int))) (((0 : Int) ≤ (0 : Int) ∧ (0 : Int) < (↑(List.length p.fst.fst) : Int)) ∧ ∃ (n_2 : Int), (∃ (e : List Value), List.get?Internal p.fst.fst (0 : Nat) = some e ∧ List.take (1 : Nat) (List.drop (0 : Nat) e) = [Value.int IntKind.i64 n_2]) ∧ (0 : Int) ≤ IntKind.wrap IntKind.u64 p.fst.snd.fst ∧ ((0 : Int) ≤ (0 : Int) ∧ (0 : Int) < (↑(List.length p.fst.fst) : Int)) ∧ (0 : Nat) < List.length p.fst.fst ∧ Meets prog (64 : Nat) [Value.slice a_1 n_1 c_1, Value.int IntKind.i64 (IntKind.wrap IntKind.i64 (lv + (1 : Int)))] H' fun (e : Ending) (H' : Nat → Option Obj) ↦ ∃ (a_2 : Option Addr), ∃ (n_3 : Nat), ∃ (c_2 : Nat), e = Ending.returned (Value.slice a_2 n_3 c_2) ∧ ∃ (es2 : List (List Value)), SliceAt H' (Value.slice a_2 n_3 c_2) (1 : Nat) es2 ∧ List.length (List.append (List.set p.fst.fst (0 : Nat) [Value.int IntKind.i64 (IntKind.wrap IntKind.i64 (n_2 - shlI IntKind.i64 (1 : Int) (IntKind.wrap IntKind.u64 p.fst.snd.fst)))]) es2) * (8 : Nat) ≤ (140737488355328 : Nat) ∧ a = a ∧ n = n ∧ c = c ∧ lv = lv ∧ K ((List.append (List.set p.fst.fst (0 : Nat) [Value.int IntKind.i64 (IntKind.wrap IntKind.i64 (n_2 - shlI IntKind.i64 (1 : Int) (IntKind.wrap IntKind.u64 p.fst.snd.fst)))]) es2, IntKind.wrap IntKind.i64 (p.fst.snd.fst + (1 : Int)), PUnit.unit), PUnit.unit) H') (a = a ∧ n = n ∧ c = c ∧ lv = lv ∧ K ((p.fst.fst, IntKind.wrap IntKind.i64 (p.fst.snd.fst + (1 : Int)), PUnit.unit), PUnit.unit) H')) (∀ (v : Value) (H' : Nat → Option Obj), H ≤ H' → (∀ (b : Nat), blockOf v = some b → H b = none) → (∀ (b : Nat) (o : Obj), H' b = some o → H b = some o ∨ blockOf v = some b) → RowAt H' v (3 : Nat) (1 : Nat) p.fst.fst → R (Ending.returned v) H')) (([[Value.int IntKind.i64 (-1 : Int)]], (0 : Int), PUnit.unit), PUnit.unit) H))
theorem vc_rshape (a : Option Addr) (n : Nat) (c : Nat) (lv : Int) (R : Ending → Heap → Prop) (H : Heap) : vcFun prog h_rshape f64 [SV.c (SC.v (Value.slice a n c)), SV.c (SC.v (Value.int IntKind.i64 lv))] R H = nf_rshape a n c lv R H := by kernel_rfl

def nf_rShape (a : Option Addr) (n : Nat) (c : Nat) (R : Ending → Heap → Prop) (H : Heap) : Prop := Meets prog (30 : Nat) [Value.slice a n c] H fun (e : Ending) (H' : Nat → Option Obj) ↦ ∃ (a : Option Addr), ∃ (n : Nat), ∃ (c : Nat), e = Ending.returned (Value.slice a n c) ∧ Meets prog (64 : Nat) [Value.slice a n c, Value.int IntKind.i64 (0 : Int)] H' fun (e : Ending) (H' : Nat → Option Obj) ↦ ∃ (a : Option Addr), ∃ (n : Nat), ∃ (c : Nat), e = Ending.returned (Value.slice a n c) ∧ R (Ending.returned (Value.slice a n c)) H'
theorem vc_rShape (a : Option Addr) (n : Nat) (c : Nat) (R : Ending → Heap → Prop) (H : Heap) : vcFun prog { } f23 [SV.c (SC.v (Value.slice a n c))] R H = nf_rShape a n c R H := by kernel_rfl

def nf_rNodes (a : Option Addr) (n : Nat) (c : Nat) (R : Ending → Heap → Prop) (H : Heap) : Prop := Meets prog (23 : Nat) [Value.slice a n c] H fun (e : Ending) (H' : Nat → Option Obj) ↦ ∃ (a : Option Addr), ∃ (n : Nat), ∃ (c : Nat), e = Ending.returned (Value.slice a n c) ∧ R (Ending.returned (Value.int IntKind.i64 (↑n : Int))) H'
theorem vc_rNodes (a : Option Addr) (n : Nat) (c : Nat) (R : Ending → Heap → Prop) (H : Heap) : vcFun prog { } f40 [SV.c (SC.v (Value.slice a n c))] R H = nf_rNodes a n c R H := by kernel_rfl

def nf_rlev (a : Option Addr) (n : Nat) (c : Nat) (lv : Int) (o : Option Addr) (R : Ending → Heap → Prop) (H : Heap) : Prop := PtrK o fun (a_1 : Addr) ↦ ((0 : Int) ≤ lv ∧ lv < (↑(33 : Nat) : Int)) ∧ PtrK (some a_1) fun (a_2 : Addr) ↦ PtrK (some (Addr.add a_2 (Int.toNat lv * (1 : Nat)))) fun (a_3 : Addr) ↦ ∃ (n_1 : Int), Heap.has H a_3 [Value.int IntKind.i64 n_1] ∧ PtrK o fun (a_4 : Addr) ↦ ((0 : Int) ≤ lv ∧ lv < (↑(33 : Nat) : Int)) ∧ PtrK (some a_4) fun (a_5 : Addr) ↦ PtrK (some (Addr.add a_5 (Int.toNat lv * (1 : Nat)))) fun (A : Addr) ↦ ∃ (c_1 : Array Value), ∃ (ty : Nat), (H A.block = some (Obj.cells c_1 ty) ∧ A.spot = none ∧ A.off + (1 : Nat) ≤ Array.size c_1) ∧ Br (decide ((↑n : Int) ≤ (4 : Int))) (R (Ending.returned (Value.tuple { toList := [] })) (Heap.upd H A.block (Obj.cells (writeCells c_1 A.off [Value.int IntKind.i64 (IntKind.wrap IntKind.i64 (n_1 + (1 : Int)))]) ty))) (Br (lv == (32 : Int)) (((0 : Int) ≤ (4 : Int) ∧ (4 : Int) ≤ (↑n : Int)) ∧ Meets prog (66 : Nat) [Value.slice (subAddr a c (4 : Nat) (4 : Nat)) (n - (4 : Nat)) (c - (4 : Nat)), Value.int IntKind.i64 (32 : Int), Value.pointer o] (Heap.upd H A.block (Obj.cells (writeCells c_1 A.off [Value.int IntKind.i64 (IntKind.wrap IntKind.i64 (n_1 + (1 : Int)))]) ty)) fun (e : Ending) (H' : Nat → Option Obj) ↦ e = Ending.returned (Value.tuple { toList := [] }) ∧ R (Ending.returned (Value.tuple { toList := [] })) H') (a = a ∧ n = n ∧ c = c ∧ lv = lv ∧ o = o ∧ LoopP (fun (K : (Int × PUnit) × PUnit → (Nat → Option Obj) → Prop) (p : (Int × PUnit) × PUnit) (H : Nat → Option Obj) ↦ Br (decide (p.fst.fst < (4 : Int))) (Meets prog (98 : Nat) [Value.slice a n c, Value.int IntKind.i64 lv, Value.int IntKind.i64 p.fst.fst] H fun (e : Ending) (H' : Nat → Option Obj) ↦ ∃ (a_6 : Option Addr), ∃ (n_2 : Nat), ∃ (c_2 : Nat), e = Ending.returned (Value.slice a_6 n_2 c_2) ∧ Br (decide ((↑n_2 : Int) > (0 : Int))) (Meets prog (66 : Nat) [Value.slice a_6 n_2 c_2, Value.int IntKind.i64 (IntKind.wrap IntKind.i64 (lv + (1 : Int))), Value.pointer o] H' fun (e : Ending) (H' : Nat → Option Obj) ↦ e = Ending.returned (Value.tuple { toList := [] }) ∧ a = a ∧ n = n ∧ c = c ∧ lv = lv ∧ o = o ∧ K ((IntKind.wrap IntKind.i64 (p.fst.fst + (1 : Int)), PUnit.unit), PUnit.unit) H') (a = a ∧ n = n ∧ c = c ∧ lv = lv ∧ o = o ∧ K ((IntKind.wrap IntKind.i64 (p.fst.fst + (1 : Int)), PUnit.unit), PUnit.unit) H')) (R (Ending.returned (Value.tuple { toList := [] })) H)) (((0 : Int), PUnit.unit), PUnit.unit) (Heap.upd H A.block (Obj.cells (writeCells c_1 A.off [Value.int IntKind.i64 (IntKind.wrap IntKind.i64 (n_1 + (1 : Int)))]) ty))))
theorem vc_rlev (a : Option Addr) (n : Nat) (c : Nat) (lv : Int) (o : Option Addr) (R : Ending → Heap → Prop) (H : Heap) : vcFun prog h_rlev f66 [SV.c (SC.v (Value.slice a n c)), SV.c (SC.v (Value.int IntKind.i64 lv)), SV.c (SC.v (Value.pointer o))] R H = nf_rlev a n c lv o R H := by kernel_rfl

def nf_rLev (a : Option Addr) (n : Nat) (c : Nat) (R : Ending → Heap → Prop) (H : Heap) : Prop := Meets prog (30 : Nat) [Value.slice a n c] H fun (e : Ending) (H' : Nat → Option Obj) ↦ ∃ (a_1 : Option Addr), ∃ (n_1 : Nat), ∃ (c_1 : Nat), e = Ending.returned (Value.slice a_1 n_1 c_1) ∧ ∀ (b : Nat), H' b = none → Meets prog (66 : Nat) [Value.slice a_1 n_1 c_1, Value.int IntKind.i64 (0 : Int), Value.pointer (some { block := b, off := (0 : Nat) })] (Heap.upd H' b (Obj.cells { toList := [Value.int IntKind.i64 (0 : Int), Value.int IntKind.i64 (0 : Int), Value.int IntKind.i64 (0 : Int), Value.int IntKind.i64 (0 : Int), Value.int IntKind.i64 (0 : Int), Value.int IntKind.i64 (0 : Int), Value.int IntKind.i64 (0 : Int), Value.int IntKind.i64 (0 : Int), Value.int IntKind.i64 (0 : Int), Value.int IntKind.i64 (0 : Int), Value.int IntKind.i64 (0 : Int), Value.int IntKind.i64 (0 : Int), Value.int IntKind.i64 (0 : Int), Value.int IntKind.i64 (0 : Int), Value.int IntKind.i64 (0 : Int), Value.int IntKind.i64 (0 : Int), Value.int IntKind.i64 (0 : Int), Value.int IntKind.i64 (0 : Int), Value.int IntKind.i64 (0 : Int), Value.int IntKind.i64 (0 : Int), Value.int IntKind.i64 (0 : Int), Value.int IntKind.i64 (0 : Int), Value.int IntKind.i64 (0 : Int), Value.int IntKind.i64 (0 : Int), Value.int IntKind.i64 (0 : Int), Value.int IntKind.i64 (0 : Int), Value.int IntKind.i64 (0 : Int), Value.int IntKind.i64 (0 : Int), Value.int IntKind.i64 (0 : Int), Value.int IntKind.i64 (0 : Int), Value.int IntKind.i64 (0 : Int), Value.int IntKind.i64 (0 : Int), Value.int IntKind.i64 (0 : Int)] } (101 : Nat))) fun (e : Ending) (H' : Nat → Option Obj) ↦ e = Ending.returned (Value.tuple { toList := [] }) ∧ ∃ (xs : List Int), List.length xs = (33 : Nat) ∧ (∃ (b_1 : Nat), blockOf (Value.pointer (some { block := b, off := (0 : Nat) })) = some b_1 ∧ H' b_1 = some (Obj.cells { toList := List.append (List.map (Value.int IntKind.i64) xs) (flatD []) } (101 : Nat))) ∧ a = a ∧ n = n ∧ c = c ∧ (0 : Nat) = (0 : Nat) ∧ xs = xs ∧ LoopP (fun (K : (Int × PUnit) × PUnit × PUnit → (Nat → Option Obj) → Prop) (p : (Int × PUnit) × PUnit × PUnit) (H : Nat → Option Obj) ↦ Br (decide (p.fst.fst > (0 : Int))) (((0 : Int) ≤ IntKind.wrap IntKind.i64 (p.fst.fst - (1 : Int)) ∧ IntKind.wrap IntKind.i64 (p.fst.fst - (1 : Int)) < (↑(33 : Nat) : Int)) ∧ Br (List.getD xs (Int.toNat (IntKind.wrap IntKind.i64 (p.fst.fst - (1 : Int)))) (0 : Int) == (0 : Int)) (a = a ∧ n = n ∧ c = c ∧ (0 : Nat) = (0 : Nat) ∧ xs = xs ∧ K ((IntKind.wrap IntKind.i64 (p.fst.fst - (1 : Int)), PUnit.unit), PUnit.unit, PUnit.unit) H) (((0 : Int) ≤ p.fst.fst ∧ p.fst.fst ≤ (↑(33 : Nat) : Int)) ∧ List.length (List.map (fun (v : Int) ↦ [Value.int IntKind.i64 v]) (List.take (Int.toNat p.fst.fst - (0 : Nat)) (List.drop (0 : Nat) xs))) * (8 : Nat) ≤ (140737488355328 : Nat) ∧ ∀ (v : Value) (H' : Nat → Option Obj), H ≤ H' → (∀ (b : Nat), blockOf v = some b → H b = none) → (∀ (b : Nat) (o : Obj), H' b = some o → H b = some o ∨ blockOf v = some b) → RowAt H' v (3 : Nat) (1 : Nat) (List.map (fun (v : Int) ↦ [Value.int IntKind.i64 v]) (List.take (Int.toNat p.fst.fst - (0 : Nat)) (List.drop (0 : Nat) xs))) → R (Ending.returned v) H')) (((0 : Int) ≤ p.fst.fst ∧ p.fst.fst ≤ (↑(33 : Nat) : Int)) ∧ List.length (List.map (fun (v : Int) ↦ [Value.int IntKind.i64 v]) (List.take (Int.toNat p.fst.fst - (0 : Nat)) (List.drop (0 : Nat) xs))) * (8 : Nat) ≤ (140737488355328 : Nat) ∧ ∀ (v : Value) (H' : Nat → Option Obj), H ≤ H' → (∀ (b : Nat), blockOf v = some b → H b = none) → (∀ (b : Nat) (o : Obj), H' b = some o → H b = some o ∨ blockOf v = some b) → RowAt H' v (3 : Nat) (1 : Nat) (List.map (fun (v : Int) ↦ [Value.int IntKind.i64 v]) (List.take (Int.toNat p.fst.fst - (0 : Nat)) (List.drop (0 : Nat) xs))) → R (Ending.returned v) H')) (((33 : Int), PUnit.unit), PUnit.unit, PUnit.unit) (Heap.delO H' (blockOf (Value.pointer (some { block := b, off := (0 : Nat) }))))
theorem vc_rLev (a : Option Addr) (n : Nat) (c : Nat) (R : Ending → Heap → Prop) (H : Heap) : vcFun prog h_rlevs f26 [SV.c (SC.v (Value.slice a n c))] R H = nf_rLev a n c R H := by kernel_rfl


/-- A tree's shape. -/
def shpC (n : Nat) : List Int := if n ≤ 4 then [(n : Int)] else 4 :: shpC (n - 4)
termination_by n
def qb (h : Nat) (L : List Pt) (q : Nat) : Int := if quarter h q L = [] then 0 else 2 ^ q
def qsum (h : Nat) (L : List Pt) : Nat → Int
  | 0 => -1
  | q + 1 => qsum h L q - qb h L q
def shpN : Nat → List Pt → List Int
  | 0, L => shpC L.length
  | h + 1, L => if L.length ≤ 4 then [(L.length : Int)] else qsum h L 4 :: ((if quarter h 0 L = [] then [] else shpN h (quarter h 0 L)) ++ ((if quarter h 1 L = [] then [] else shpN h (quarter h 1 L)) ++ ((if quarter h 2 L = [] then [] else shpN h (quarter h 2 L)) ++ (if quarter h 3 L = [] then [] else shpN h (quarter h 3 L)))))
def SS (h : Nat) (L : List Pt) : Nat → List Int
  | 0 => []
  | q + 1 => SS h L q ++ (if quarter h q L = [] then [] else shpN h (quarter h q L))
theorem shpN_succ {h : Nat} {L : List Pt} (hl : ¬ L.length ≤ 4) : shpN (h + 1) L = qsum h L 4 :: SS h L 4 := by
  conv => lhs; unfold shpN
  rw [if_neg hl]
  simp [SS]
theorem shpC_len (n : Nat) : (shpC n).length = nch n := by
  induction n using Nat.strongRecOn with
  | _ n ih =>
    unfold shpC
    split
    · rename_i h; unfold nch; rw [if_pos h]; rfl
    · rename_i h; rw [List.length_cons, ih _ (by omega), nch_step (n := n) (by omega)]
theorem shpN_len : ∀ (h : Nat) (L : List Pt), (shpN h L).length = nds h L
  | 0, L => shpC_len _
  | h + 1, L => by
    unfold shpN nds
    split
    · rfl
    · have sub : ∀ q, ((if quarter h q L = [] then [] else shpN h (quarter h q L)) : List Int).length = nq (nds h) (quarter h q L) := fun q => by
        unfold nq
        split
        · rfl
        · exact shpN_len h _
      simp only [List.length_cons, List.length_append, sub]
      omega
theorem SS_len {h : Nat} {L : List Pt} (hl : ¬ L.length ≤ 4) : ∀ q, q ≤ 4 → (SS h L q).length + 1 ≤ nds (h + 1) L := fun q hq => by
  have h4 : (SS h L 4).length + 1 = nds (h + 1) L := by rw [← shpN_len, shpN_succ hl]; rfl
  have mono : ∀ j, (SS h L q).length ≤ (SS h L (q + j)).length := fun j => by
    induction j with
    | zero => exact Nat.le_refl _
    | succ j ih => refine Nat.le_trans ih ?_; show _ ≤ (SS h L (q + j) ++ _).length; rw [List.length_append]; omega
  have := mono (4 - q)
  rw [show q + (4 - q) = 4 by omega] at this
  omega
theorem nch_le (n : Nat) : nch n ≤ n + 1 := by unfold nch; split <;> omega
theorem nds_le : ∀ (h : Nat) {L : List Pt}, (∀ p ∈ L, PtR p) → nds h L ≤ 1 + (h + 1) * L.length
  | 0, L, _ => by have := nch_le L.length; show nch _ ≤ _; omega
  | h + 1, L, hr => by
    unfold nds
    split
    · omega
    · have hs := sum_quarters (h := h) hr
      have sub : ∀ q, nq (nds h) (quarter h q L) ≤ (h + 2) * (quarter h q L).length := fun q => by
        unfold nq
        split
        · omega
        · rename_i e
          have := nds_le h (L := quarter h q L) fun p hp => hr p (List.mem_filter.1 hp).1
          have h1 : 0 < (quarter h q L).length := List.length_pos_iff.2 e
          have : (h + 2) * (quarter h q L).length = (h + 1) * (quarter h q L).length + (quarter h q L).length := by rw [← Nat.succ_mul]
          omega
      have e : (h + 1 + 1) * L.length = (h + 2) * (quarter h 0 L).length + (h + 2) * (quarter h 1 L).length + (h + 2) * (quarter h 2 L).length + (h + 2) * (quarter h 3 L).length := by
        rw [← Nat.mul_add, ← Nat.mul_add, ← Nat.mul_add, hs]
      have := sub 0; have := sub 1; have := sub 2; have := sub 3
      omega
def levO (O : List Int) (V : List (Nat × Int)) : List Int := V.foldl (fun O x => O.set x.1 (IntKind.i64.wrap (O.getD x.1 0 + 1))) O
theorem levO_len : ∀ (V : List (Nat × Int)) (O : List Int), (levO O V).length = O.length
  | [], O => rfl
  | x :: V, O => by show (levO (O.set _ _) V).length = _; rw [levO_len V]; simp
theorem levO_app (O : List Int) (V W : List (Nat × Int)) : levO O (V ++ W) = levO (levO O V) W := List.foldl_append ..
theorem visN_succ {h : Nat} {L : List Pt} (hl : ¬ L.length ≤ 4) : visN (h + 1) L = (31 - h, -1) :: VV h L 4 := by
  conv => lhs; unfold visN
  rw [if_neg hl]
  simp [VV]
section
variable {R : Ending → Heap → Prop} {H : Heap}
theorem wu64i {k : Int} (h : 0 ≤ k ∧ k < 18446744073709551616) : IntKind.u64.wrap k = k := IntWalk.u64_in _ (by omega)
theorem s_rqua {p : Pt} {h : Nat} {lv : Int} (hp : PtR p) (hh : h ≤ 31) (hl : lv = 31 - (h : Int)) (k : R (.returned (vi (qt h p))) H) : Meets prog 126 [ptV p, vi lv] H R := by
  refine spec_of func126 (by kernel_rfl) (fun t h => by cases h) ?_ (vc_rqua p.id p.x p.y p.data lv R H) ?_
  · simp [argsR, SV.rep, SegsRep, SC.rep, one]
  unfold nf_rqua
  obtain ⟨x1, x2, y1, y2⟩ := hp
  have hw : IntKind.u64.wrap (IntKind.i64.wrap (31 - lv)) = (h : Int) := by
    rw [w64 (by omega), wu64i (by omega)]; omega
  rw [hw, shr_u32 x1 (by omega), shr_u32 y1 (by omega)]
  have hx : 0 ≤ p.x / 2 ^ h := Int.ediv_nonneg x1 (by have := pow_le (h := h) (by omega); omega)
  have hy : 0 ≤ p.y / 2 ^ h := Int.ediv_nonneg y1 (by have := pow_le (h := h) (by omega); omega)
  rw [Int.tmod_eq_emod_of_nonneg hx, Int.tmod_eq_emod_of_nonneg hy, wu32 (k := 2 * _) (by omega), wu32 (by omega), w64 (by omega)]
  exact ⟨by omega, by decide, by omega, by decide, k⟩
theorem s_pick {v : Value} {l : List Pt} {h q : Nat} {lv : Int} (hs : SliceAt H v 4 (pts l)) (hl : l.length ≤ 1000000) (hp : ∀ p ∈ l, PtR p) (hh : h ≤ 31) (hlv : lv = 31 - (h : Int))
    (k : ∀ v H', H ≤ H' → (∀ b, blockOf v = some b → H b = none) → (∀ b o, H' b = some o → H b = some o ∨ blockOf v = some b) → RowAt H' v tPt 4 (pts (quarter h q l)) → R (.returned v) H') : Meets prog 98 [v, vi lv, vi q] H R := by
  obtain ⟨a, n, c, e, hn⟩ := hs
  subst e
  have hs : SliceAt H (.slice a n c) 4 (pts l) := ⟨a, n, c, rfl, hn⟩
  have hln : l.length = n := by simpa [pts] using hn.1
  refine spec_of func98 (by kernel_rfl) (fun t h => by cases h) ?_ (vc_pick a n c lv q R H) ?_
  · simp [argsR, SV.rep, SC.rep, one]
  unfold nf_pick
  simp only [true_and]
  refine ⟨fun p H' => ∃ t : Nat, p.1.1 = pts (quarter h q (l.take t)) ∧ p.1.2.1 = (t : Int) ∧ t ≤ n ∧ H' = H, fun p _ => (n - p.1.2.1).toNat, ⟨0, by simp, rfl, by omega, rfl⟩, ?_⟩
  rintro ⟨⟨e1, i, _⟩, _⟩ H1 ⟨t, h1, hi, ht, rfl⟩
  simp only at h1 hi ⊢
  subst h1; subst hi
  refine br (fun q0 => ?_) fun q0 => ?_
  · simp only [decide_eq_true_eq] at q0
    obtain ⟨p, _, htk, hx⟩ := drop_cons (l := l) (k := t) (by omega)
    obtain ⟨A, e, g⟩ := pr_get hs hx
    subst e
    have hpl : (pts (quarter h q (l.take t))).length ≤ t := by
      simp only [pts, List.length_map]
      exact Nat.le_trans (List.length_filter_le _ _) (by simp; omega)
    rw [Int.toNat_natCast, w64 (by omega)]
    refine ⟨⟨by omega, by omega⟩, ptr rfl (ptr rfl ⟨_, _, _, _, g, s_rqua (hp p (List.mem_of_getElem? hx)) hh hlv ⟨_, rfl, br (fun q1 => ?_) fun q1 => ?_⟩⟩)⟩
    · refine ⟨⟨by omega, by omega⟩, ptr rfl (ptr rfl ⟨_, _, _, _, g, ?_, ⟨⟨t + 1, ?_, by omega, by omega, rfl⟩, by omega⟩⟩)⟩
      · rw [append_eq, List.length_append, List.length_singleton]; omega
      · rw [htk]
        show _ = pts (List.filter _ (_ ++ _))
        rw [List.filter_append, List.filter_cons_of_pos (by simpa using q1)]
        simp [pts, append_eq]
    · refine ⟨⟨t + 1, ?_, by omega, by omega, rfl⟩, by omega⟩
      rw [htk]
      show _ = pts (List.filter _ (_ ++ _))
      rw [List.filter_append, List.filter_cons_of_neg (by simpa using q1)]
      simp
  · simp only [decide_eq_false_iff_not] at q0
    obtain rfl : t = n := by omega
    rw [List.take_of_length_le (by omega)]
    exact k
theorem s_rshape0 : ∀ (N : Nat) {L : List Pt} {v : Value} {H : Heap} {R : Ending → Heap → Prop}, L.length ≤ N → L.length ≤ 50000 → SliceAt H v 4 (pts L) →
    (∀ v H', H ≤ H' → (∀ b, blockOf v = some b → H b = none) → RowAt H' v 3 1 (cells (shpC L.length)) → R (.returned v) H') → Meets prog 64 [v, vi 32] H R := by
  intro N
  induction N with
  | zero =>
    intro L v H R hN hl hs k
    obtain ⟨a, n, c, e, hn⟩ := hs
    subst e
    have hln : L.length = n := by simpa [pts] using hn.1
    refine spec_of func64 (by kernel_rfl) (fun t h => by cases h) ?_ (vc_rshape a n c 32 R H) ?_
    · simp [argsR, SV.rep, SC.rep, one]
    unfold nf_rshape
    refine br (fun q => fun v H' g1 g2 g3 g4 => k v H' g1 g2 ?_) fun q => by simp at q; omega
    rw [shpC, if_pos (by omega), hln]; exact g4
  | succ N ih =>
    intro L v H R hN hl hs k
    obtain ⟨a, n, c, e, hn⟩ := hs
    subst e
    have hs : SliceAt H (.slice a n c) 4 (pts L) := ⟨a, n, c, rfl, hn⟩
    have hln : L.length = n := by simpa [pts] using hn.1
    refine spec_of func64 (by kernel_rfl) (fun t h => by cases h) ?_ (vc_rshape a n c 32 R H) ?_
    · simp [argsR, SV.rep, SC.rep, one]
    unfold nf_rshape
    refine br (fun q => fun v H' g1 g2 g3 g4 => k v H' g1 g2 ?_) fun q => br (fun _ => ?_) fun q1 => by cases q1
    · simp only [decide_eq_true_eq] at q
      rw [shpC, if_pos (by omega), hln]; exact g4
    simp only [decide_eq_false_iff_not] at q
    have h4 := slice_suf hs (lo := 4) (by omega)
    rw [show (pts L).drop 4 = pts (L.drop 4) by simp [pts]] at h4
    refine ⟨⟨by omega, by omega⟩, ih (L := L.drop 4) (by simp; omega) (by simp; omega) h4 fun v1 H1 hle1 hfr1 hrow1 => ?_⟩
    obtain ⟨a1, c1, rfl⟩ := row_val hrow1
    have hlen := shpC_len (L.drop 4).length
    have hnl := nch_le (L.drop 4).length
    have e5 : [vi 4] :: cells (shpC (L.drop 4).length) = cells (shpC L.length) := by
      conv => rhs; rw [shpC, if_neg (by omega)]
      simp
    refine ⟨_, _, _, rfl, _, row_slice hrow1, ?_, fun v2 H2 g1 g2 g3 g4 => k v2 H2 (heap_trans hle1 g1) (fresh_le hle1 g2) ?_⟩
    · simp only [List.length_cons, List.length_map, hlen]
      simp at hnl ⊢; omega
    · rw [← e5]; exact g4
theorem two_pow {q : Nat} (hq : q < 4) : shlI .i64 1 (IntKind.u64.wrap (q : Int)) = 2 ^ q ∧ 0 ≤ IntKind.u64.wrap (q : Int) := by
  rcases four_eq hq with rfl | rfl | rfl | rfl <;> decide
theorem qsum_range (h : Nat) (L : List Pt) : ∀ q, q ≤ 4 → -(2 : Int) ^ q ≤ qsum h L q ∧ qsum h L q ≤ -1
  | 0, _ => by simp [qsum]
  | q + 1, hq => by
    have h1 := qsum_range h L q (by omega)
    unfold qsum qb
    have h2 : (2 : Int) ^ (q + 1) = 2 * 2 ^ q := by rw [Int.pow_succ]; omega
    have h3 := pow_le (h := q) (by omega)
    split <;> omega
theorem s_rshape : ∀ (h : Nat) {L : List Pt} {v : Value} {lv : Int} {H : Heap} {R : Ending → Heap → Prop}, h ≤ 32 → lv = 32 - (h : Int) → L.length ≤ 50000 → (∀ p ∈ L, PtR p) → SliceAt H v 4 (pts L) →
    (∀ v H', H ≤ H' → (∀ b, blockOf v = some b → H b = none) → RowAt H' v 3 1 (cells (shpN h L)) → R (.returned v) H') → Meets prog 64 [v, vi lv] H R := by
  intro h
  induction h with
  | zero => intro L v lv H R hh hlv hl hp hs k; subst hlv; exact s_rshape0 _ (Nat.le_refl _) hl hs k
  | succ h ih =>
    intro L v lv H R hh hlv hl hp hs k
    obtain ⟨a, n, c, e, hn⟩ := hs
    subst e
    have hs : SliceAt H (.slice a n c) 4 (pts L) := ⟨a, n, c, rfl, hn⟩
    have hln : L.length = n := by simpa [pts] using hn.1
    refine spec_of func64 (by kernel_rfl) (fun t h => by cases h) ?_ (vc_rshape a n c lv R H) ?_
    · simp [argsR, SV.rep, SC.rep, one]
    unfold nf_rshape
    refine br (fun q => fun v H' g1 g2 g3 g4 => k v H' g1 g2 ?_) fun q => br (fun q1 => by simp at q1; omega) fun _ => ?_
    · simp only [decide_eq_true_eq] at q
      unfold shpN; rw [if_pos (by omega), hln]; exact g4
    simp only [decide_eq_false_iff_not] at q
    simp only [true_and]
    refine ⟨fun p H' => ∃ q : Nat, p.1.1 = cells (qsum h L q :: SS h L q) ∧ p.1.2.1 = (q : Int) ∧ q ≤ 4 ∧ H ≤ H', fun p _ => (4 - p.1.2.1).toNat, ⟨0, rfl, rfl, by omega, heap_refl _⟩, ?_⟩
    rintro ⟨⟨e1, i, _⟩, _⟩ H1 ⟨u, h1, hi, hu, hle⟩
    simp only at h1 hi ⊢
    subst h1; subst hi
    refine br (fun q0 => ?_) fun q0 => ?_
    · simp only [decide_eq_true_eq] at q0
      have hlQ : (quarter h u L).length ≤ L.length := List.length_filter_le _ _
      refine s_pick (h := h) (slice_le hs hle) (by omega) hp (by omega) (by omega) fun v1 H2 hle2 hfr2 _ hrow2 => ?_
      obtain ⟨a2, c2, rfl⟩ := row_val hrow2
      have hpl : (pts (quarter h u L)).length = (quarter h u L).length := by simp [pts]
      rw [hpl] at hrow2 ⊢
      refine ⟨_, _, _, rfl, br (fun q1 => ?_) fun q1 => ?_⟩
      · simp only [decide_eq_true_eq] at q1
        have hQ : quarter h u L ≠ [] := fun e => by rw [e] at q1; simp at q1
        obtain ⟨t1, t2⟩ := two_pow (q := u) (by omega)
        have hr := qsum_range h L u (by omega)
        have hpw := pow_le (h := u) (by omega)
        have hsum : IntKind.i64.wrap (qsum h L u - shlI .i64 1 (IntKind.u64.wrap (u : Int))) = qsum h L (u + 1) := by
          rw [t1]
          have h16 : (2 : Int) ^ u ≤ 8 := by rcases four_eq (q := u) (by omega) with rfl | rfl | rfl | rfl <;> decide
          rw [w64 (by omega)]
          conv => rhs; unfold qsum qb
          rw [if_neg hQ]
        refine ⟨⟨by simp, by simp⟩, _, ⟨_, rfl, rfl⟩, t2, ⟨by simp, by simp⟩, by simp, ih (L := quarter h u L) (by omega) (by rw [w64 (by omega)]; omega) (by omega) (fun p hm => hp p (List.mem_filter.1 hm).1) (row_slice hrow2) fun v3 H3 hle3 hfr3 hrow3 => ?_⟩
        obtain ⟨a3, c3, rfl⟩ := row_val hrow3
        rw [hsum]
        have hSS : SS h L (u + 1) = SS h L u ++ shpN h (quarter h u L) := by conv => lhs; unfold SS
                                                                             rw [if_neg hQ]
        have e6 : List.append (List.set (cells (qsum h L u :: SS h L u)) 0 [vi (qsum h L (u + 1))]) (cells (shpN h (quarter h u L))) = cells (qsum h L (u + 1) :: SS h L (u + 1)) := by
          rw [hSS]; simp [append_eq]
        rw [w64 (by omega)]
        have hb := SS_len (h := h) (L := L) (by omega) (u + 1) (by omega)
        have hb2 := nds_le (h + 1) hp
        have hb3 : (h + 1 + 1) * L.length ≤ 34 * 50000 := Nat.mul_le_mul (by omega) hl
        refine ⟨_, _, _, rfl, _, row_slice hrow3, ?_, ⟨u + 1, e6, by omega, by omega, heap_trans hle (heap_trans hle2 hle3)⟩, by omega⟩
        rw [e6]
        simp only [List.length_map, List.length_cons]; omega
      · simp only [decide_eq_false_iff_not] at q1
        have hQ : quarter h u L = [] := List.length_eq_zero_iff.1 (by omega)
        rw [w64 (by omega)]
        refine ⟨⟨u + 1, ?_, by omega, by omega, heap_trans hle hle2⟩, by omega⟩
        have e1 : qsum h L (u + 1) = qsum h L u := by conv => lhs; unfold qsum qb
                                                      rw [if_pos hQ]; omega
        have e2 : SS h L (u + 1) = SS h L u := by conv => lhs; unfold SS
                                                  rw [if_pos hQ, List.append_nil]
        rw [e1, e2]
    · simp only [decide_eq_false_iff_not] at q0
      obtain rfl : u = 4 := by omega
      rw [← shpN_succ (by omega)]
      exact fun v1 H2 g1 g2 g3 g4 => k v1 H2 (heap_trans hle g1) (fresh_le hle g2) g4
theorem s_rShape {v : Value} {l : List Pt} (hs : SliceAt H v 4 (pts l)) (hl : l.length ≤ 50000) (hp : ∀ p ∈ l, PtR p)
    (k : ∀ v H', H ≤ H' → (∀ b, blockOf v = some b → H b = none) → RowAt H' v 3 1 (cells (shpN 32 (sortP l))) → R (.returned v) H') : Meets prog 23 [v] H R := by
  obtain ⟨a, n, c, e, hn⟩ := hs
  subst e
  have hs : SliceAt H (.slice a n c) 4 (pts l) := ⟨a, n, c, rfl, hn⟩
  refine spec_of func23 (by kernel_rfl) (fun t h => by cases h) ?_ (vc_rShape a n c R H) ?_
  · simp [argsR, SV.rep, SC.rep, one]
  unfold nf_rShape
  refine s_rsort hs (by omega) fun v1 H1 hle1 hfr1 hrow1 => ?_
  obtain ⟨a1, c1, rfl⟩ := row_val hrow1
  have hlen := sortP_len l
  refine ⟨_, _, _, rfl, s_rshape 32 (Nat.le_refl _) (by omega) (by omega) (fun p hm => hp p (sortP_mem.1 hm)) (row_slice hrow1) fun v2 H2 hle2 hfr2 hrow2 => ?_⟩
  obtain ⟨a2, c2, rfl⟩ := row_val hrow2
  exact ⟨_, _, _, rfl, k _ _ (heap_trans hle1 hle2) (fresh_le hle1 hfr2) hrow2⟩
theorem s_rNodes {v : Value} {l : List Pt} (hs : SliceAt H v 4 (pts l)) (hl : l.length ≤ 50000) (hp : ∀ p ∈ l, PtR p)
    (k : ∀ H', H ≤ H' → R (.returned (vi (nds 32 (sortP l)))) H') : Meets prog 40 [v] H R := by
  obtain ⟨a, n, c, e, hn⟩ := hs
  subst e
  have hs : SliceAt H (.slice a n c) 4 (pts l) := ⟨a, n, c, rfl, hn⟩
  refine spec_of func40 (by kernel_rfl) (fun t h => by cases h) ?_ (vc_rNodes a n c R H) ?_
  · simp [argsR, SV.rep, SC.rep, one]
  unfold nf_rNodes
  refine s_rShape hs hl hp fun v1 H1 hle1 hfr1 hrow1 => ?_
  obtain ⟨a1, c1, rfl⟩ := row_val hrow1
  refine ⟨_, _, _, rfl, ?_⟩
  rw [show (cells (shpN 32 (sortP l))).length = nds 32 (sortP l) by rw [List.length_map, shpN_len]]
  exact k _ hle1
end
end Cr

/- The reference's levels. -/
set_option linter.unusedVariables false
set_option linter.unusedSimpArgs false
namespace Cr
open Go Sx Stb Bt
open Go.Proofs.Try
set_option maxRecDepth 100000
abbrev arrO (O : List Int) (ty : Nat) : Obj := .cells (O.map vi).toArray ty (0, 0)
theorem del_le (H : Heap) (b : Nat) : H.del b ≤ H := fun x o e => by
  unfold Heap.del at e
  split at e
  · cases e
  · exact e
theorem le_del {G H : Heap} {b : Nat} (h : G ≤ H) (hb : G b = none) : G ≤ H.del b := fun x o e => by
  rw [del_ne _ (by rintro rfl; rw [hb] at e; cases e)]; exact h _ _ e
section
variable {R : Ending → Heap → Prop} {H : Heap}
theorem s_rlev0 : ∀ (N : Nat) {L : List Pt} {v : Value} {G H : Heap} {b ty : Nat} {O : List Int} {R : Ending → Heap → Prop}, L.length ≤ N → L.length ≤ 50000 → SliceAt G v 4 (pts L) → G ≤ H → G b = none → H b = some (arrO O ty) → O.length = 33 →
    (∀ H', G ≤ H' → H' b = some (arrO (levO O (chV L.length)) ty) → R (.returned unitV) H') → Meets prog 66 [v, vi 32, .pointer (some ⟨b, 0, none⟩)] H R := by
  intro N
  induction N with
  | zero =>
    intro L v G H b ty O R hN hl hs hle hb hO hO33 k
    obtain ⟨a, n, c, e, hn⟩ := hs
    subst e
    have hln : L.length = n := by simpa [pts] using hn.1
    refine spec_of func66 (by kernel_rfl) (fun t h => by cases h) ?_ (vc_rlev a n c 32 (some ⟨b, 0, none⟩) R H) ?_
    · simp [argsR, SV.rep, SC.rep, one]
    unfold nf_rlev
    obtain ⟨p1, p2⟩ := cells_put hO (k := 32) (by simp [hO33]) (vi (IntKind.i64.wrap (O.getD 32 0 + 1)))
    refine ptr rfl ⟨⟨by omega, by omega⟩, ptr rfl (ptr rfl ⟨_, cells_at hO (k := 32) (x := vi (O.getD 32 0)) (by rw [List.getElem?_map, List.getElem?_eq_getElem (by omega)]; simp [List.getD_eq_getElem?_getD, List.getElem?_eq_getElem, hO33]), ptr rfl ⟨⟨by omega, by omega⟩, ptr rfl (ptr rfl ⟨_, _, p1, br (fun q => ?_) fun q => ?_⟩)⟩⟩)⟩
    · rw [show (⟨b, 0, none⟩ : Addr).add (Int.toNat 32 * 1) = (⟨b, 0, none⟩ : Addr).add 32 from rfl, p2, ← List.map_set]
      refine k _ (le_upd hle hb _) ?_
      rw [upd_same, chV, if_pos (by omega)]; rfl
    · simp at q; omega
  | succ N ih =>
    intro L v G H b ty O R hN hl hs hle hb hO hO33 k
    obtain ⟨a, n, c, e, hn⟩ := hs
    subst e
    have hs : SliceAt G (.slice a n c) 4 (pts L) := ⟨a, n, c, rfl, hn⟩
    have hln : L.length = n := by simpa [pts] using hn.1
    refine spec_of func66 (by kernel_rfl) (fun t h => by cases h) ?_ (vc_rlev a n c 32 (some ⟨b, 0, none⟩) R H) ?_
    · simp [argsR, SV.rep, SC.rep, one]
    unfold nf_rlev
    obtain ⟨p1, p2⟩ := cells_put hO (k := 32) (by simp [hO33]) (vi (IntKind.i64.wrap (O.getD 32 0 + 1)))
    refine ptr rfl ⟨⟨by omega, by omega⟩, ptr rfl (ptr rfl ⟨_, cells_at hO (k := 32) (x := vi (O.getD 32 0)) (by rw [List.getElem?_map, List.getElem?_eq_getElem (by omega)]; simp [List.getD_eq_getElem?_getD, List.getElem?_eq_getElem, hO33]), ptr rfl ⟨⟨by omega, by omega⟩, ptr rfl (ptr rfl ⟨_, _, p1, br (fun q => ?_) fun q => br (fun _ => ?_) fun q1 => by cases q1⟩)⟩⟩)⟩
    · simp only [decide_eq_true_eq] at q
      rw [show (⟨b, 0, none⟩ : Addr).add (Int.toNat 32 * 1) = (⟨b, 0, none⟩ : Addr).add 32 from rfl, p2, ← List.map_set]
      refine k _ (le_upd hle hb _) ?_
      rw [upd_same, chV, if_pos (by omega)]; rfl
    · simp only [decide_eq_false_iff_not] at q
      rw [show (⟨b, 0, none⟩ : Addr).add (Int.toNat 32 * 1) = (⟨b, 0, none⟩ : Addr).add 32 from rfl, p2, ← List.map_set]
      have h4 := slice_suf hs (lo := 4) (by omega)
      rw [show (pts L).drop 4 = pts (L.drop 4) by simp [pts]] at h4
      refine ⟨⟨by omega, by omega⟩, ih (L := L.drop 4) (by simp; omega) (by simp; omega) h4 (le_upd hle hb _) hb (upd_same _ _ _) (by simpa using hO33) fun H' f1 f2 => ⟨rfl, k _ f1 ?_⟩⟩
      rw [f2]
      conv => rhs; rw [chV, if_neg (by omega)]
      rw [show (L.drop 4).length = L.length - 4 by simp]
      rfl
theorem s_rlev : ∀ (h : Nat) {L : List Pt} {v : Value} {lv : Int} {G H : Heap} {b ty : Nat} {O : List Int} {R : Ending → Heap → Prop}, h ≤ 32 → lv = 32 - (h : Int) → L.length ≤ 50000 → (∀ p ∈ L, PtR p) → SliceAt G v 4 (pts L) → G ≤ H → G b = none → H b = some (arrO O ty) → O.length = 33 →
    (∀ H', G ≤ H' → H' b = some (arrO (levO O (visN h L)) ty) → R (.returned unitV) H') → Meets prog 66 [v, vi lv, .pointer (some ⟨b, 0, none⟩)] H R := by
  intro h
  induction h with
  | zero => intro L v lv G H b ty O R hh hlv hl hp hs hle hb hO hO33 k; subst hlv; exact s_rlev0 _ (Nat.le_refl _) hl hs hle hb hO hO33 k
  | succ h ih =>
    intro L v lv G H b ty O R hh hlv hl hp hs hle hb hO hO33 k
    obtain ⟨a, n, c, e, hn⟩ := hs
    subst e
    have hs : SliceAt G (.slice a n c) 4 (pts L) := ⟨a, n, c, rfl, hn⟩
    have hln : L.length = n := by simpa [pts] using hn.1
    obtain ⟨w, hw⟩ : ∃ w : Nat, lv = (w : Int) ∧ w = 31 - h := ⟨31 - h, by omega, rfl⟩
    obtain ⟨rfl, hw⟩ := hw
    refine spec_of func66 (by kernel_rfl) (fun t h => by cases h) ?_ (vc_rlev a n c w (some ⟨b, 0, none⟩) R H) ?_
    · simp [argsR, SV.rep, SC.rep, one]
    unfold nf_rlev
    obtain ⟨p1, p2⟩ := cells_put hO (k := w) (by simp [hO33]; omega) (vi (IntKind.i64.wrap (O.getD w 0 + 1)))
    simp only [Int.toNat_natCast, Nat.mul_one]
    have hwl : w < O.length := by omega
    refine ptr rfl ⟨⟨by omega, by omega⟩, ptr rfl (ptr rfl ⟨_, cells_at hO (k := w) (x := vi (O.getD w 0)) (by rw [List.getElem?_map]; simp [List.getD_eq_getElem?_getD, List.getElem?_eq_getElem hwl]), ptr rfl ⟨⟨by omega, by omega⟩, ptr rfl (ptr rfl ⟨_, _, p1, br (fun q => ?_) fun q => br (fun q1 => by simp at q1; omega) fun _ => ?_⟩)⟩⟩)⟩
    · simp only [decide_eq_true_eq] at q
      rw [p2, ← List.map_set]
      refine k _ (le_upd hle hb _) ?_
      rw [upd_same]
      conv => rhs; unfold visN
      rw [if_pos (by omega), ← hw]; rfl
    simp only [decide_eq_false_iff_not] at q
    rw [p2, ← List.map_set]
    rw [visN_succ (by omega), ← hw] at k
    simp only [true_and]
    generalize hO1 : O.set w (IntKind.i64.wrap (O.getD w 0 + 1)) = O1
    have hk : ∀ V, levO O ((w, -1) :: V) = levO O1 V := fun V => by rw [← hO1]; rfl
    rw [hk] at k
    have hO133 : O1.length = 33 := by rw [← hO1]; simpa using hO33
    refine ⟨fun p H' => ∃ q : Nat, p.1.1 = (q : Int) ∧ q ≤ 4 ∧ G ≤ H' ∧ H' b = some (arrO (levO O1 (VV h L q)) ty), fun p _ => (4 - p.1.1).toNat, ⟨0, rfl, by omega, le_upd hle hb _, upd_same _ _ _⟩, ?_⟩
    rintro ⟨⟨i, _⟩, _⟩ H1 ⟨u, hi, hu, hle1, hO2⟩
    simp only at hi ⊢
    subst hi
    refine br (fun q0 => ?_) fun q0 => ?_
    · simp only [decide_eq_true_eq] at q0
      have hlQ : (quarter h u L).length ≤ L.length := List.length_filter_le _ _
      refine s_pick (h := h) (slice_le hs hle1) (by omega) hp (by omega) (by omega) fun v1 H2 hle2 hfr2 _ hrow2 => ?_
      obtain ⟨a2, c2, rfl⟩ := row_val hrow2
      have hpl : (pts (quarter h u L)).length = (quarter h u L).length := by simp [pts]
      rw [hpl] at hrow2 hfr2 ⊢
      refine ⟨_, _, _, rfl, br (fun q1 => ?_) fun q1 => ?_⟩
      · simp only [decide_eq_true_eq] at q1
        have hQ : quarter h u L ≠ [] := fun e => by rw [e] at q1; simp at q1
        have hVV : VV h L (u + 1) = VV h L u ++ visN h (quarter h u L) := by conv => lhs; unfold VV
                                                                             rw [if_neg hQ]
        have hle3 : G ≤ H2.del b := le_del (heap_trans hle1 hle2) hb
        refine ih (L := quarter h u L) (by omega) (by rw [w64 (by omega)]; omega) (by omega) (fun p hm => hp p (List.mem_filter.1 hm).1) (row_slice (row_le hrow2 fun x o e q => ?_)) (del_le H2 b) (by unfold Heap.del; rw [if_pos rfl]) (hle2 _ _ hO2) (by rw [levO_len]; exact hO133) fun H3 f1 f2 => ⟨rfl, ⟨u + 1, ?_, by omega, heap_trans hle3 f1, ?_⟩, ?_⟩
        · rw [del_ne _ (by rintro rfl; have := hfr2 _ e; rw [hO2] at this; cases this)]; exact q
        · rw [w64 (by omega)]; omega
        · rw [f2, hVV, levO_app]
        · rw [w64 (by omega)]; omega
      · simp only [decide_eq_false_iff_not] at q1
        have hQ : quarter h u L = [] := List.length_eq_zero_iff.1 (by omega)
        have hVV : VV h L (u + 1) = VV h L u := by conv => lhs; unfold VV
                                                   rw [if_pos hQ, List.append_nil]
        rw [w64 (by omega)]
        exact ⟨⟨u + 1, by omega, by omega, heap_trans hle1 hle2, by rw [hVV]; exact hle2 _ _ hO2⟩, by omega⟩
    · simp only [decide_eq_false_iff_not] at q0
      obtain rfl : u = 4 := by omega
      exact k _ hle1 hO2
/-- Without the zeros at its end. -/
def trimL (O : List Int) (n : Nat) : Prop := n ≤ O.length ∧ (∀ i, n ≤ i → O.getD i 0 = 0) ∧ (0 < n → O.getD (n - 1) 0 ≠ 0)
theorem s_rLev {v : Value} {l : List Pt} (hs : SliceAt H v 4 (pts l)) (hl : l.length ≤ 50000) (hp : ∀ p ∈ l, PtR p)
    (k : ∀ n, trimL (levO (List.replicate 33 0) (visN 32 (sortP l))) n → ∀ v H', H ≤ H' → (∀ b, blockOf v = some b → H b = none) → RowAt H' v 3 1 (cells ((levO (List.replicate 33 0) (visN 32 (sortP l))).take n)) → R (.returned v) H') : Meets prog 26 [v] H R := by
  obtain ⟨a, n, c, e, hn⟩ := hs
  subst e
  have hs : SliceAt H (.slice a n c) 4 (pts l) := ⟨a, n, c, rfl, hn⟩
  refine spec_of func26 (by kernel_rfl) (fun t h => by cases h) ?_ (vc_rLev a n c R H) ?_
  · simp [argsR, SV.rep, SC.rep, one]
  unfold nf_rLev
  refine s_rsort hs (by omega) fun v1 H1 hle1 hfr1 hrow1 => ?_
  obtain ⟨a1, c1, rfl⟩ := row_val hrow1
  have hlen := sortP_len l
  refine ⟨_, _, _, rfl, fun b hb => ?_⟩
  refine s_rlev 32 (G := H1) (ty := 101) (O := List.replicate 33 0) (Nat.le_refl _) (by omega) (by omega) (fun p hm => hp p (sortP_mem.1 hm)) (row_slice hrow1) (upd_le hb) hb (upd_same _ _ _) rfl fun H2 f1 f2 => ⟨rfl, ?_⟩
  generalize hO : levO (List.replicate 33 0) (visN 32 (sortP l)) = O at *
  have hO33 : O.length = 33 := by rw [← hO, levO_len]; rfl
  refine ⟨O, hO33, ⟨b, rfl, by rw [f2]; simp [flatD, append_eq]⟩, ?_⟩
  simp only [true_and]
  have hle2 : H ≤ H2.delO (blockOf (.pointer (some ⟨b, 0, none⟩))) := heap_trans hle1 (le_del f1 hb)
  have hpast : ∀ i, 33 ≤ i → O.getD i 0 = 0 := fun i hi => by rw [List.getD_eq_getElem?_getD, List.getElem?_eq_none (by omega)]; rfl
  refine ⟨fun p H' => ∃ t : Nat, p.1.1 = (t : Int) ∧ t ≤ 33 ∧ (∀ i, t ≤ i → O.getD i 0 = 0) ∧ H' = H2.delO (blockOf (.pointer (some ⟨b, 0, none⟩))), fun p _ => p.1.1.toNat, ⟨33, rfl, by omega, hpast, rfl⟩, ?_⟩
  rintro ⟨⟨i, _⟩, _⟩ H3 ⟨t, hi, ht, hz, rfl⟩
  simp only at hi ⊢
  subst hi
  have fin : trimL O t → ∀ (v : Value) (H' : Heap), H2.delO (blockOf (.pointer (some ⟨b, 0, none⟩))) ≤ H' → (∀ b_1, blockOf v = some b_1 → (H2.delO (blockOf (.pointer (some ⟨b, 0, none⟩)))) b_1 = none) → (∀ (b_1 : Nat) (o : Obj), H' b_1 = some o → (H2.delO (blockOf (.pointer (some ⟨b, 0, none⟩)))) b_1 = some o ∨ blockOf v = some b_1) →
      RowAt H' v 3 1 ((List.take (Int.toNat (t : Int) - 0) (List.drop 0 O)).map fun v => [vi v]) → R (.returned v) H' := fun htr v H' g1 g2 g3 g4 => by
    refine k t htr v H' (heap_trans hle2 g1) (fresh_le hle2 g2) ?_
    simpa using g4
  refine br (fun q => ?_) fun q => ?_
  · simp only [decide_eq_true_eq] at q
    rw [w64 (by omega), show ((t : Int) - 1) = ((t - 1 : Nat) : Int) by omega, Int.toNat_natCast]
    refine ⟨⟨by omega, by omega⟩, br (fun q1 => ?_) fun q1 => ?_⟩
    · refine ⟨⟨t - 1, rfl, by omega, fun i hi => ?_, trivial⟩, by omega⟩
      rcases Nat.lt_or_ge i t with h | h
      · obtain rfl : i = t - 1 := by omega
        exact eq_of_beq q1
      · exact hz i h
    · refine ⟨⟨by omega, by omega⟩, by simp; omega, fin ⟨by omega, hz, fun _ e => by rw [e] at q1; simp at q1⟩⟩
  · simp only [decide_eq_false_iff_not] at q
    refine ⟨⟨by omega, by omega⟩, by simp; omega, fin ⟨by omega, hz, fun h => by omega⟩⟩
end
end Cr

/- Building, inserting, deleting: the ways in. -/
set_option linter.unusedVariables false
set_option linter.unusedSimpArgs false
namespace Cr
open Go Sx Stb Bt
open Go.Proofs.Try
set_option maxRecDepth 100000
def h_build : Hints := { pan := true, pk := some [2, 3], loops := [(2, ⟨[0, 2, 3, 8, 9], [.f 10 (.int .i64)], [.keep 2, .keep 3]⟩)] }
def h_tins : Hints := { pan := true, pk := some [4, 5] }
def nf_build (a : Option Addr) (n : Nat) (c : Nat) (R : Ending → Heap → Prop) (H : Heap) : Prop := a = a ∧ n = n ∧ c = c ∧ (0 : Nat) = (0 : Nat) ∧ (0 : Nat) = (0 : Nat) ∧ a = a ∧ n = n ∧ c = c ∧ (↑n : Int) = (↑n : Int) ∧ (none : Option Addr) = none ∧ (0 : Int) = (0 : Int) ∧ LoopP (fun (K : (Int × PUnit) × PUnit × PUnit × PUnit → (Nat → Option Obj) → Prop) (p : (Int × PUnit) × PUnit × PUnit × PUnit) (H : Nat → Option Obj) ↦ Br (decide (p.fst.fst < (↑n : Int))) (((0 : Int) ≤ p.fst.fst ∧ p.fst.fst < (↑n : Int)) ∧ PtrK a fun (A : Addr) ↦ PtrK (some (Addr.add A (Int.toNat p.fst.fst * (4 : Nat)))) fun (a_1 : Addr) ↦ ∃ (n_1 : Int), ∃ (n_2 : Int), ∃ (n_3 : Int), ∃ (s : ByteArray), Heap.has H a_1 [Value.int IntKind.i64 n_1, Value.int IntKind.u32 n_2, Value.int IntKind.u32 n_3, Value.string s] ∧ Meets prog (58 : Nat) [Value.agg { toList := [Value.int IntKind.i64 n_1, Value.int IntKind.u32 n_2, Value.int IntKind.u32 n_3, Value.string s] }] H fun (e : Ending) (H' : Nat → Option Obj) ↦ (∃ (n_4 : Int), e = Ending.returned (Value.int IntKind.i64 n_4) ∧ Br (n_4 != (0 : Int)) (R (Ending.returned (Value.tuple { toList := [Value.pointer none, Value.int IntKind.i64 n_4] })) H') (a = a ∧ n = n ∧ c = c ∧ (0 : Nat) = (0 : Nat) ∧ (0 : Nat) = (0 : Nat) ∧ a = a ∧ n = n ∧ c = c ∧ (↑n : Int) = (↑n : Int) ∧ (none : Option Addr) = none ∧ (0 : Int) = (0 : Int) ∧ K ((IntKind.wrap IntKind.i64 (p.fst.fst + (1 : Int)), PUnit.unit), PUnit.unit, PUnit.unit, PUnit.unit) H')) ∨ ∃ (c : List PanicEntry), e = Ending.panicked c ∧ R (Ending.panicked c) H') (Meets prog (59 : Nat) [Value.slice a n c] H fun (e : Ending) (H' : Nat → Option Obj) ↦ (∃ (a : Option Addr), ∃ (n : Nat), ∃ (c : Nat), e = Ending.returned (Value.slice a n c) ∧ Meets prog (60 : Nat) [Value.slice a n c] H' fun (e : Ending) (H' : Nat → Option Obj) ↦ (∃ (b : Bool), e = Ending.returned (Value.bool b) ∧ Br b (R (Ending.returned (Value.tuple { toList := [Value.pointer none, Value.int IntKind.i64 (22 : Int)] })) H') (Meets prog (43 : Nat) [] H' fun (e : Ending) (H' : Nat → Option Obj) ↦ (∃ (a_1 : Option Addr), e = Ending.returned (Value.pointer a_1) ∧ ∃ (G : Nat → Option Obj), G ≤ H' ∧ Meets prog (63 : Nat) [] H' fun (e : Ending) (H'_1 : Nat → Option Obj) ↦ (Keep G H' H' H'_1 ∧ ∃ (n_1 : Int), ∃ (n_2 : Int), ∃ (n_3 : Int), e = Ending.returned (Value.agg { toList := [Value.int IntKind.u32 n_1, Value.int IntKind.u32 n_2, Value.int IntKind.i64 n_3] }) ∧ Meets prog (62 : Nat) [Value.agg { toList := [Value.pointer a_1] }, Value.int IntKind.i64 (1 : Int), Value.agg { toList := [Value.int IntKind.u32 n_1, Value.int IntKind.u32 n_2, Value.int IntKind.i64 n_3] }, Value.slice a n c] (delLs H'_1 []) fun (e : Ending) (H' : Nat → Option Obj) ↦ (Keep G (delLs H'_1 []) (delLs H'_1 []) H' ∧ e = Ending.returned (Value.tuple { toList := [] }) ∧ ∀ (b : Nat), delLs H' [] b = none → ∀ (b_1 : Nat), Heap.upd (delLs H' ([] ++ [] ++ ([] ++ ([] ++ ([] ++ ([] ++ [])) ++ ([] ++ []))))) b (Obj.cells { toList := [Value.pointer a_1] } (33 : Nat)) b_1 = none → MeetsD prog (61 : Nat) [Value.pointer (some { block := b, off := (0 : Nat) }), Value.pointer (some { block := b_1, off := (0 : Nat) })] FrameMode.returning (Heap.upd (Heap.upd (delLs H' []) b (Obj.cells { toList := [Value.pointer a_1] } (33 : Nat))) b_1 (Obj.cells { toList := [Value.int IntKind.i64 (0 : Int)] } (34 : Nat))) fun (e : Ending) (u : FrameMode) (H' : Nat → Option Obj) ↦ (∃ (v : Value), e = Ending.returned v) ∧ settle u = FrameMode.returning ∧ ∃ (a : Option Addr), (∃ (b_2 : Nat), blockOf (Value.pointer (some { block := b, off := (0 : Nat) })) = some b_2 ∧ H' b_2 = some (Obj.cells { toList := [Value.pointer a] } (33 : Nat))) ∧ ∃ (n : Int), (∃ (b_2 : Nat), blockOf (Value.pointer (some { block := b_1, off := (0 : Nat) })) = some b_2 ∧ Heap.delO H' (blockOf (Value.pointer (some { block := b, off := (0 : Nat) }))) b_2 = some (Obj.cells { toList := [Value.int IntKind.i64 n] } (34 : Nat))) ∧ R (Ending.returned (Value.tuple { toList := [Value.pointer a, Value.int IntKind.i64 n] })) (Heap.delO (Heap.delO H' (blockOf (Value.pointer (some { block := b, off := (0 : Nat) })))) (blockOf (Value.pointer (some { block := b_1, off := (0 : Nat) }))))) ∨ ∃ (c : List PanicEntry), e = Ending.panicked c ∧ ∀ (b : Nat), H' b = none → ∀ (b_1 : Nat), Heap.upd H' b (Obj.cells { toList := [Value.pointer none] } (33 : Nat)) b_1 = none → MeetsD prog (61 : Nat) [Value.pointer (some { block := b, off := (0 : Nat) }), Value.pointer (some { block := b_1, off := (0 : Nat) })] (FrameMode.panicking c) (Heap.upd (Heap.upd H' b (Obj.cells { toList := [Value.pointer none] } (33 : Nat))) b_1 (Obj.cells { toList := [Value.int IntKind.i64 (0 : Int)] } (34 : Nat))) fun (e : Ending) (u : FrameMode) (H' : Nat → Option Obj) ↦ (∃ (v : Value), e = Ending.returned v) ∧ ((settle u = FrameMode.returning ∧ ∃ (a : Option Addr), (∃ (b_2 : Nat), blockOf (Value.pointer (some { block := b, off := (0 : Nat) })) = some b_2 ∧ H' b_2 = some (Obj.cells { toList := [Value.pointer a] } (33 : Nat))) ∧ ∃ (n : Int), (∃ (b_2 : Nat), blockOf (Value.pointer (some { block := b_1, off := (0 : Nat) })) = some b_2 ∧ Heap.delO H' (blockOf (Value.pointer (some { block := b, off := (0 : Nat) }))) b_2 = some (Obj.cells { toList := [Value.int IntKind.i64 n] } (34 : Nat))) ∧ R (Ending.returned (Value.tuple { toList := [Value.pointer a, Value.int IntKind.i64 n] })) (Heap.delO (Heap.delO H' (blockOf (Value.pointer (some { block := b, off := (0 : Nat) })))) (blockOf (Value.pointer (some { block := b_1, off := (0 : Nat) }))))) ∨ ∃ (c' : List PanicEntry), settle u = FrameMode.panicking c' ∧ R (Ending.panicked c') H')) ∨ ∃ (c : List PanicEntry), e = Ending.panicked c ∧ ∀ (b : Nat), H'_1 b = none → ∀ (b_1 : Nat), Heap.upd H'_1 b (Obj.cells { toList := [Value.pointer none] } (33 : Nat)) b_1 = none → MeetsD prog (61 : Nat) [Value.pointer (some { block := b, off := (0 : Nat) }), Value.pointer (some { block := b_1, off := (0 : Nat) })] (FrameMode.panicking c) (Heap.upd (Heap.upd H'_1 b (Obj.cells { toList := [Value.pointer none] } (33 : Nat))) b_1 (Obj.cells { toList := [Value.int IntKind.i64 (0 : Int)] } (34 : Nat))) fun (e : Ending) (u : FrameMode) (H' : Nat → Option Obj) ↦ (∃ (v : Value), e = Ending.returned v) ∧ ((settle u = FrameMode.returning ∧ ∃ (a : Option Addr), (∃ (b_2 : Nat), blockOf (Value.pointer (some { block := b, off := (0 : Nat) })) = some b_2 ∧ H' b_2 = some (Obj.cells { toList := [Value.pointer a] } (33 : Nat))) ∧ ∃ (n : Int), (∃ (b_2 : Nat), blockOf (Value.pointer (some { block := b_1, off := (0 : Nat) })) = some b_2 ∧ Heap.delO H' (blockOf (Value.pointer (some { block := b, off := (0 : Nat) }))) b_2 = some (Obj.cells { toList := [Value.int IntKind.i64 n] } (34 : Nat))) ∧ R (Ending.returned (Value.tuple { toList := [Value.pointer a, Value.int IntKind.i64 n] })) (Heap.delO (Heap.delO H' (blockOf (Value.pointer (some { block := b, off := (0 : Nat) })))) (blockOf (Value.pointer (some { block := b_1, off := (0 : Nat) }))))) ∨ ∃ (c' : List PanicEntry), settle u = FrameMode.panicking c' ∧ R (Ending.panicked c') H')) ∨ ∃ (c : List PanicEntry), e = Ending.panicked c ∧ ∀ (b : Nat), H' b = none → ∀ (b_1 : Nat), Heap.upd H' b (Obj.cells { toList := [Value.pointer none] } (33 : Nat)) b_1 = none → MeetsD prog (61 : Nat) [Value.pointer (some { block := b, off := (0 : Nat) }), Value.pointer (some { block := b_1, off := (0 : Nat) })] (FrameMode.panicking c) (Heap.upd (Heap.upd H' b (Obj.cells { toList := [Value.pointer none] } (33 : Nat))) b_1 (Obj.cells { toList := [Value.int IntKind.i64 (0 : Int)] } (34 : Nat))) fun (e : Ending) (u : FrameMode) (H' : Nat → Option Obj) ↦ (∃ (v : Value), e = Ending.returned v) ∧ ((settle u = FrameMode.returning ∧ ∃ (a : Option Addr), (∃ (b_2 : Nat), blockOf (Value.pointer (some { block := b, off := (0 : Nat) })) = some b_2 ∧ H' b_2 = some (Obj.cells { toList := [Value.pointer a] } (33 : Nat))) ∧ ∃ (n : Int), (∃ (b_2 : Nat), blockOf (Value.pointer (some { block := b_1, off := (0 : Nat) })) = some b_2 ∧ Heap.delO H' (blockOf (Value.pointer (some { block := b, off := (0 : Nat) }))) b_2 = some (Obj.cells { toList := [Value.int IntKind.i64 n] } (34 : Nat))) ∧ R (Ending.returned (Value.tuple { toList := [Value.pointer a, Value.int IntKind.i64 n] })) (Heap.delO (Heap.delO H' (blockOf (Value.pointer (some { block := b, off := (0 : Nat) })))) (blockOf (Value.pointer (some { block := b_1, off := (0 : Nat) }))))) ∨ ∃ (c' : List PanicEntry), settle u = FrameMode.panicking c' ∧ R (Ending.panicked c') H'))) ∨ ∃ (c : List PanicEntry), e = Ending.panicked c ∧ R (Ending.panicked c) H') ∨ ∃ (c : List PanicEntry), e = Ending.panicked c ∧ R (Ending.panicked c) H')) (((0 : Int), PUnit.unit), PUnit.unit, PUnit.unit, PUnit.unit) H
theorem vc_build (a : Option Addr) (n : Nat) (c : Nat) (R : Ending → Heap → Prop) (H : Heap) : vcFun prog h_build f22 [SV.c (SC.v (Value.slice a n c))] R H = nf_build a n c R H := by kernel_rfl

def nf_tins (g : Option Addr) (i : Int) (x : Int) (y : Int) (d : ByteArray) (R : Ending → Heap → Prop) (H : Heap) : Prop := Meets prog (58 : Nat) [Value.agg { toList := [Value.int IntKind.i64 i, Value.int IntKind.u32 x, Value.int IntKind.u32 y, Value.string d] }] H fun (e : Ending) (H' : Nat → Option Obj) ↦ (∃ (n : Int), e = Ending.returned (Value.int IntKind.i64 n) ∧ Br (n != (0 : Int)) (R (Ending.returned (Value.tuple { toList := [Value.pointer none, Value.int IntKind.i64 n] })) H') (∃ (G : Nat → Option Obj), G ≤ H' ∧ Meets prog (42 : Nat) [Value.pointer g] H' fun (e : Ending) (H'_1 : Nat → Option Obj) ↦ (Keep G H' H' H'_1 ∧ ∃ (a : Option Addr), ∃ (n : Nat), ∃ (c : Nat), e = Ending.returned (Value.slice a n c) ∧ Meets prog (77 : Nat) [Value.slice a n c, Value.int IntKind.i64 i] (delLs H'_1 []) fun (e : Ending) (H' : Nat → Option Obj) ↦ (Keep G (delLs H'_1 []) (delLs H'_1 []) H' ∧ ∃ (n : Int), e = Ending.returned (Value.int IntKind.i64 n) ∧ Br (decide (n ≥ (0 : Int))) (R (Ending.returned (Value.tuple { toList := [Value.pointer none, Value.int IntKind.i64 (22 : Int)] })) (delLs H' [])) (Meets prog (52 : Nat) [Value.pointer g] (delLs H' []) fun (e : Ending) (H' : Nat → Option Obj) ↦ (∃ (a : Option Addr), e = Ending.returned (Value.pointer a) ∧ ∃ (G : Nat → Option Obj), G ≤ H' ∧ Meets prog (63 : Nat) [] H' fun (e : Ending) (H'_2 : Nat → Option Obj) ↦ (Keep G H' H' H'_2 ∧ ∃ (n : Int), ∃ (n_1 : Int), ∃ (n_2 : Int), e = Ending.returned (Value.agg { toList := [Value.int IntKind.u32 n, Value.int IntKind.u32 n_1, Value.int IntKind.i64 n_2] }) ∧ Meets prog (78 : Nat) [Value.agg { toList := [Value.pointer a] }, Value.int IntKind.i64 (1 : Int), Value.agg { toList := [Value.int IntKind.u32 n, Value.int IntKind.u32 n_1, Value.int IntKind.i64 n_2] }, Value.agg { toList := [Value.int IntKind.i64 i, Value.int IntKind.u32 x, Value.int IntKind.u32 y, Value.string d] }] (delLs H'_2 []) fun (e : Ending) (H' : Nat → Option Obj) ↦ (Keep G (delLs H'_2 []) (delLs H'_2 []) H' ∧ e = Ending.returned (Value.tuple { toList := [] }) ∧ ∀ (b : Nat), delLs H' [] b = none → ∀ (b_1 : Nat), Heap.upd (delLs H' ([] ++ [] ++ ([] ++ ([] ++ ([] ++ ([] ++ [])) ++ ([] ++ ([] ++ ([] ++ ([] ++ []))) ++ []))))) b (Obj.cells { toList := [Value.pointer a] } (33 : Nat)) b_1 = none → MeetsD prog (61 : Nat) [Value.pointer (some { block := b, off := (0 : Nat) }), Value.pointer (some { block := b_1, off := (0 : Nat) })] FrameMode.returning (Heap.upd (Heap.upd (delLs H' []) b (Obj.cells { toList := [Value.pointer a] } (33 : Nat))) b_1 (Obj.cells { toList := [Value.int IntKind.i64 (0 : Int)] } (34 : Nat))) fun (e : Ending) (u : FrameMode) (H' : Nat → Option Obj) ↦ (∃ (v : Value), e = Ending.returned v) ∧ settle u = FrameMode.returning ∧ ∃ (a : Option Addr), (∃ (b_2 : Nat), blockOf (Value.pointer (some { block := b, off := (0 : Nat) })) = some b_2 ∧ H' b_2 = some (Obj.cells { toList := [Value.pointer a] } (33 : Nat))) ∧ ∃ (n : Int), (∃ (b_2 : Nat), blockOf (Value.pointer (some { block := b_1, off := (0 : Nat) })) = some b_2 ∧ Heap.delO H' (blockOf (Value.pointer (some { block := b, off := (0 : Nat) }))) b_2 = some (Obj.cells { toList := [Value.int IntKind.i64 n] } (34 : Nat))) ∧ R (Ending.returned (Value.tuple { toList := [Value.pointer a, Value.int IntKind.i64 n] })) (Heap.delO (Heap.delO H' (blockOf (Value.pointer (some { block := b, off := (0 : Nat) })))) (blockOf (Value.pointer (some { block := b_1, off := (0 : Nat) }))))) ∨ ∃ (c : List PanicEntry), e = Ending.panicked c ∧ ∀ (b : Nat), H' b = none → ∀ (b_1 : Nat), Heap.upd H' b (Obj.cells { toList := [Value.pointer none] } (33 : Nat)) b_1 = none → MeetsD prog (61 : Nat) [Value.pointer (some { block := b, off := (0 : Nat) }), Value.pointer (some { block := b_1, off := (0 : Nat) })] (FrameMode.panicking c) (Heap.upd (Heap.upd H' b (Obj.cells { toList := [Value.pointer none] } (33 : Nat))) b_1 (Obj.cells { toList := [Value.int IntKind.i64 (0 : Int)] } (34 : Nat))) fun (e : Ending) (u : FrameMode) (H' : Nat → Option Obj) ↦ (∃ (v : Value), e = Ending.returned v) ∧ ((settle u = FrameMode.returning ∧ ∃ (a : Option Addr), (∃ (b_2 : Nat), blockOf (Value.pointer (some { block := b, off := (0 : Nat) })) = some b_2 ∧ H' b_2 = some (Obj.cells { toList := [Value.pointer a] } (33 : Nat))) ∧ ∃ (n : Int), (∃ (b_2 : Nat), blockOf (Value.pointer (some { block := b_1, off := (0 : Nat) })) = some b_2 ∧ Heap.delO H' (blockOf (Value.pointer (some { block := b, off := (0 : Nat) }))) b_2 = some (Obj.cells { toList := [Value.int IntKind.i64 n] } (34 : Nat))) ∧ R (Ending.returned (Value.tuple { toList := [Value.pointer a, Value.int IntKind.i64 n] })) (Heap.delO (Heap.delO H' (blockOf (Value.pointer (some { block := b, off := (0 : Nat) })))) (blockOf (Value.pointer (some { block := b_1, off := (0 : Nat) }))))) ∨ ∃ (c' : List PanicEntry), settle u = FrameMode.panicking c' ∧ R (Ending.panicked c') H')) ∨ ∃ (c : List PanicEntry), e = Ending.panicked c ∧ ∀ (b : Nat), H'_2 b = none → ∀ (b_1 : Nat), Heap.upd H'_2 b (Obj.cells { toList := [Value.pointer none] } (33 : Nat)) b_1 = none → MeetsD prog (61 : Nat) [Value.pointer (some { block := b, off := (0 : Nat) }), Value.pointer (some { block := b_1, off := (0 : Nat) })] (FrameMode.panicking c) (Heap.upd (Heap.upd H'_2 b (Obj.cells { toList := [Value.pointer none] } (33 : Nat))) b_1 (Obj.cells { toList := [Value.int IntKind.i64 (0 : Int)] } (34 : Nat))) fun (e : Ending) (u : FrameMode) (H' : Nat → Option Obj) ↦ (∃ (v : Value), e = Ending.returned v) ∧ ((settle u = FrameMode.returning ∧ ∃ (a : Option Addr), (∃ (b_2 : Nat), blockOf (Value.pointer (some { block := b, off := (0 : Nat) })) = some b_2 ∧ H' b_2 = some (Obj.cells { toList := [Value.pointer a] } (33 : Nat))) ∧ ∃ (n : Int), (∃ (b_2 : Nat), blockOf (Value.pointer (some { block := b_1, off := (0 : Nat) })) = some b_2 ∧ Heap.delO H' (blockOf (Value.pointer (some { block := b, off := (0 : Nat) }))) b_2 = some (Obj.cells { toList := [Value.int IntKind.i64 n] } (34 : Nat))) ∧ R (Ending.returned (Value.tuple { toList := [Value.pointer a, Value.int IntKind.i64 n] })) (Heap.delO (Heap.delO H' (blockOf (Value.pointer (some { block := b, off := (0 : Nat) })))) (blockOf (Value.pointer (some { block := b_1, off := (0 : Nat) }))))) ∨ ∃ (c' : List PanicEntry), settle u = FrameMode.panicking c' ∧ R (Ending.panicked c') H')) ∨ ∃ (c : List PanicEntry), e = Ending.panicked c ∧ ∀ (b : Nat), H' b = none → ∀ (b_1 : Nat), Heap.upd H' b (Obj.cells { toList := [Value.pointer none] } (33 : Nat)) b_1 = none → MeetsD prog (61 : Nat) [Value.pointer (some { block := b, off := (0 : Nat) }), Value.pointer (some { block := b_1, off := (0 : Nat) })] (FrameMode.panicking c) (Heap.upd (Heap.upd H' b (Obj.cells { toList := [Value.pointer none] } (33 : Nat))) b_1 (Obj.cells { toList := [Value.int IntKind.i64 (0 : Int)] } (34 : Nat))) fun (e : Ending) (u : FrameMode) (H' : Nat → Option Obj) ↦ (∃ (v : Value), e = Ending.returned v) ∧ ((settle u = FrameMode.returning ∧ ∃ (a : Option Addr), (∃ (b_2 : Nat), blockOf (Value.pointer (some { block := b, off := (0 : Nat) })) = some b_2 ∧ H' b_2 = some (Obj.cells { toList := [Value.pointer a] } (33 : Nat))) ∧ ∃ (n : Int), (∃ (b_2 : Nat), blockOf (Value.pointer (some { block := b_1, off := (0 : Nat) })) = some b_2 ∧ Heap.delO H' (blockOf (Value.pointer (some { block := b, off := (0 : Nat) }))) b_2 = some (Obj.cells { toList := [Value.int IntKind.i64 n] } (34 : Nat))) ∧ R (Ending.returned (Value.tuple { toList := [Value.pointer a, Value.int IntKind.i64 n] })) (Heap.delO (Heap.delO H' (blockOf (Value.pointer (some { block := b, off := (0 : Nat) })))) (blockOf (Value.pointer (some { block := b_1, off := (0 : Nat) }))))) ∨ ∃ (c' : List PanicEntry), settle u = FrameMode.panicking c' ∧ R (Ending.panicked c') H'))) ∨ ∃ (c : List PanicEntry), e = Ending.panicked c ∧ R (Ending.panicked c) H') ∨ ∃ (c : List PanicEntry), e = Ending.panicked c ∧ R (Ending.panicked c) H'_1)) ∨ ∃ (c : List PanicEntry), e = Ending.panicked c ∧ R (Ending.panicked c) H'
theorem vc_tins (g : Option Addr) (i : Int) (x : Int) (y : Int) (d : ByteArray) (R : Ending → Heap → Prop) (H : Heap) : vcFun prog h_tins f45 [SV.c (SC.v (Value.pointer g)), ptA i x y d] R H = nf_tins g i x y d R H := by kernel_rfl

def nf_tdel (g : Option Addr) (i : Int) (x : Int) (y : Int) (d : ByteArray) (R : Ending → Heap → Prop) (H : Heap) : Prop := Meets prog (52 : Nat) [Value.pointer g] H fun (e : Ending) (H' : Nat → Option Obj) ↦ (∃ (a : Option Addr), e = Ending.returned (Value.pointer a) ∧ ∃ (G : Nat → Option Obj), G ≤ H' ∧ Meets prog (63 : Nat) [] H' fun (e : Ending) (H'_1 : Nat → Option Obj) ↦ (Keep G H' H' H'_1 ∧ ∃ (n : Int), ∃ (n_1 : Int), ∃ (n_2 : Int), e = Ending.returned (Value.agg { toList := [Value.int IntKind.u32 n, Value.int IntKind.u32 n_1, Value.int IntKind.i64 n_2] }) ∧ Meets prog (76 : Nat) [Value.agg { toList := [Value.pointer a] }, Value.int IntKind.i64 (1 : Int), Value.agg { toList := [Value.int IntKind.u32 n, Value.int IntKind.u32 n_1, Value.int IntKind.i64 n_2] }, Value.agg { toList := [Value.int IntKind.i64 i, Value.int IntKind.u32 x, Value.int IntKind.u32 y, Value.string d] }] (delLs H'_1 []) fun (e : Ending) (H' : Nat → Option Obj) ↦ (Keep G (delLs H'_1 []) (delLs H'_1 []) H' ∧ e = Ending.returned (Value.tuple { toList := [] }) ∧ ∀ (b : Nat), delLs H' [] b = none → ∀ (b_1 : Nat), Heap.upd (delLs H' ([] ++ [] ++ ([] ++ ([] ++ ([] ++ ([] ++ [])) ++ ([] ++ ([] ++ ([] ++ ([] ++ []))) ++ []))))) b (Obj.cells { toList := [Value.pointer a] } (33 : Nat)) b_1 = none → MeetsD prog (61 : Nat) [Value.pointer (some { block := b, off := (0 : Nat) }), Value.pointer (some { block := b_1, off := (0 : Nat) })] FrameMode.returning (Heap.upd (Heap.upd (delLs H' []) b (Obj.cells { toList := [Value.pointer a] } (33 : Nat))) b_1 (Obj.cells { toList := [Value.int IntKind.i64 (0 : Int)] } (34 : Nat))) fun (e : Ending) (u : FrameMode) (H' : Nat → Option Obj) ↦ (∃ (v : Value), e = Ending.returned v) ∧ settle u = FrameMode.returning ∧ ∃ (a : Option Addr), (∃ (b_2 : Nat), blockOf (Value.pointer (some { block := b, off := (0 : Nat) })) = some b_2 ∧ H' b_2 = some (Obj.cells { toList := [Value.pointer a] } (33 : Nat))) ∧ ∃ (n : Int), (∃ (b_2 : Nat), blockOf (Value.pointer (some { block := b_1, off := (0 : Nat) })) = some b_2 ∧ Heap.delO H' (blockOf (Value.pointer (some { block := b, off := (0 : Nat) }))) b_2 = some (Obj.cells { toList := [Value.int IntKind.i64 n] } (34 : Nat))) ∧ R (Ending.returned (Value.tuple { toList := [Value.pointer a, Value.int IntKind.i64 n] })) (Heap.delO (Heap.delO H' (blockOf (Value.pointer (some { block := b, off := (0 : Nat) })))) (blockOf (Value.pointer (some { block := b_1, off := (0 : Nat) }))))) ∨ ∃ (c : List PanicEntry), e = Ending.panicked c ∧ ∀ (b : Nat), H' b = none → ∀ (b_1 : Nat), Heap.upd H' b (Obj.cells { toList := [Value.pointer none] } (33 : Nat)) b_1 = none → MeetsD prog (61 : Nat) [Value.pointer (some { block := b, off := (0 : Nat) }), Value.pointer (some { block := b_1, off := (0 : Nat) })] (FrameMode.panicking c) (Heap.upd (Heap.upd H' b (Obj.cells { toList := [Value.pointer none] } (33 : Nat))) b_1 (Obj.cells { toList := [Value.int IntKind.i64 (0 : Int)] } (34 : Nat))) fun (e : Ending) (u : FrameMode) (H' : Nat → Option Obj) ↦ (∃ (v : Value), e = Ending.returned v) ∧ ((settle u = FrameMode.returning ∧ ∃ (a : Option Addr), (∃ (b_2 : Nat), blockOf (Value.pointer (some { block := b, off := (0 : Nat) })) = some b_2 ∧ H' b_2 = some (Obj.cells { toList := [Value.pointer a] } (33 : Nat))) ∧ ∃ (n : Int), (∃ (b_2 : Nat), blockOf (Value.pointer (some { block := b_1, off := (0 : Nat) })) = some b_2 ∧ Heap.delO H' (blockOf (Value.pointer (some { block := b, off := (0 : Nat) }))) b_2 = some (Obj.cells { toList := [Value.int IntKind.i64 n] } (34 : Nat))) ∧ R (Ending.returned (Value.tuple { toList := [Value.pointer a, Value.int IntKind.i64 n] })) (Heap.delO (Heap.delO H' (blockOf (Value.pointer (some { block := b, off := (0 : Nat) })))) (blockOf (Value.pointer (some { block := b_1, off := (0 : Nat) }))))) ∨ ∃ (c' : List PanicEntry), settle u = FrameMode.panicking c' ∧ R (Ending.panicked c') H')) ∨ ∃ (c : List PanicEntry), e = Ending.panicked c ∧ ∀ (b : Nat), H'_1 b = none → ∀ (b_1 : Nat), Heap.upd H'_1 b (Obj.cells { toList := [Value.pointer none] } (33 : Nat)) b_1 = none → MeetsD prog (61 : Nat) [Value.pointer (some { block := b, off := (0 : Nat) }), Value.pointer (some { block := b_1, off := (0 : Nat) })] (FrameMode.panicking c) (Heap.upd (Heap.upd H'_1 b (Obj.cells { toList := [Value.pointer none] } (33 : Nat))) b_1 (Obj.cells { toList := [Value.int IntKind.i64 (0 : Int)] } (34 : Nat))) fun (e : Ending) (u : FrameMode) (H' : Nat → Option Obj) ↦ (∃ (v : Value), e = Ending.returned v) ∧ ((settle u = FrameMode.returning ∧ ∃ (a : Option Addr), (∃ (b_2 : Nat), blockOf (Value.pointer (some { block := b, off := (0 : Nat) })) = some b_2 ∧ H' b_2 = some (Obj.cells { toList := [Value.pointer a] } (33 : Nat))) ∧ ∃ (n : Int), (∃ (b_2 : Nat), blockOf (Value.pointer (some { block := b_1, off := (0 : Nat) })) = some b_2 ∧ Heap.delO H' (blockOf (Value.pointer (some { block := b, off := (0 : Nat) }))) b_2 = some (Obj.cells { toList := [Value.int IntKind.i64 n] } (34 : Nat))) ∧ R (Ending.returned (Value.tuple { toList := [Value.pointer a, Value.int IntKind.i64 n] })) (Heap.delO (Heap.delO H' (blockOf (Value.pointer (some { block := b, off := (0 : Nat) })))) (blockOf (Value.pointer (some { block := b_1, off := (0 : Nat) }))))) ∨ ∃ (c' : List PanicEntry), settle u = FrameMode.panicking c' ∧ R (Ending.panicked c') H')) ∨ ∃ (c : List PanicEntry), e = Ending.panicked c ∧ ∀ (b : Nat), H' b = none → ∀ (b_1 : Nat), Heap.upd H' b (Obj.cells { toList := [Value.pointer none] } (33 : Nat)) b_1 = none → MeetsD prog (61 : Nat) [Value.pointer (some { block := b, off := (0 : Nat) }), Value.pointer (some { block := b_1, off := (0 : Nat) })] (FrameMode.panicking c) (Heap.upd (Heap.upd H' b (Obj.cells { toList := [Value.pointer none] } (33 : Nat))) b_1 (Obj.cells { toList := [Value.int IntKind.i64 (0 : Int)] } (34 : Nat))) fun (e : Ending) (u : FrameMode) (H' : Nat → Option Obj) ↦ (∃ (v : Value), e = Ending.returned v) ∧ ((settle u = FrameMode.returning ∧ ∃ (a : Option Addr), (∃ (b_2 : Nat), blockOf (Value.pointer (some { block := b, off := (0 : Nat) })) = some b_2 ∧ H' b_2 = some (Obj.cells { toList := [Value.pointer a] } (33 : Nat))) ∧ ∃ (n : Int), (∃ (b_2 : Nat), blockOf (Value.pointer (some { block := b_1, off := (0 : Nat) })) = some b_2 ∧ Heap.delO H' (blockOf (Value.pointer (some { block := b, off := (0 : Nat) }))) b_2 = some (Obj.cells { toList := [Value.int IntKind.i64 n] } (34 : Nat))) ∧ R (Ending.returned (Value.tuple { toList := [Value.pointer a, Value.int IntKind.i64 n] })) (Heap.delO (Heap.delO H' (blockOf (Value.pointer (some { block := b, off := (0 : Nat) })))) (blockOf (Value.pointer (some { block := b_1, off := (0 : Nat) }))))) ∨ ∃ (c' : List PanicEntry), settle u = FrameMode.panicking c' ∧ R (Ending.panicked c') H')
theorem vc_tdel (g : Option Addr) (i : Int) (x : Int) (y : Int) (d : ByteArray) (R : Ending → Heap → Prop) (H : Heap) : vcFun prog h_tins f44 [SV.c (SC.v (Value.pointer g)), ptA i x y d] R H = nf_tdel g i x y d R H := by kernel_rfl

theorem specD_of {P : Program} {f : FuncId} {fn : Func} {hs : Hints} {args : List SV} {vs : List Value} {u : FrameMode} {H : Heap} {R : Ending → FrameMode → Heap → Prop} {X : Prop} (hf : P.funcs[f]? = some fn) (hc : callable P f = true)
    (hE : ∀ t, memN hs.eqs t = true → EqOK P t) (ha : argsR args vs) (hv : vcFunD P hs fn args u R H = X) (hx : X) : MeetsD P f vs u H R := meetsD_of_vc hf hc hE ha (by rw [hv]; exact hx)
theorem del_two {H : Heap} {b b1 : Nat} {o o1 : Obj} (h : H b = none) (h1 : H b1 = none) : (((H.upd b o).upd b1 o1).delO (some b)).delO (some b1) = H := by
  funext x
  show (if x = b1 then none else if x = b then none else (if x = b1 then some o1 else if x = b then some o else H x)) = H x
  by_cases e1 : x = b1
  · subst e1; rw [if_pos rfl, h1]
  · by_cases e : x = b
    · subst e; rw [if_neg e1, if_pos rfl, h]
    · rw [if_neg e1, if_neg e, if_neg e1, if_neg e]
def FinR (R : Ending → Heap → Prop) (b b1 : Nat) (e : Ending) (u : FrameMode) (H' : Heap) : Prop := (∃ v : Value, e = .returned v) ∧ settle u = .returning ∧ ∃ a : Option Addr, (∃ b2, blockOf (.pointer (some ⟨b, 0, none⟩)) = some b2 ∧ H' b2 = some (.cells #[.pointer a] 33 (0, 0))) ∧
  ∃ n : Int, (∃ b2, blockOf (.pointer (some ⟨b1, 0, none⟩)) = some b2 ∧ (H'.delO (blockOf (.pointer (some ⟨b, 0, none⟩)))) b2 = some (.cells #[vi n] 34 (0, 0))) ∧ R (.returned (.tuple #[.pointer a, vi n])) ((H'.delO (blockOf (.pointer (some ⟨b, 0, none⟩)))).delO (blockOf (.pointer (some ⟨b1, 0, none⟩))))
section
variable {R : Ending → Heap → Prop} {H : Heap}
theorem fin_at {b b1 : Nat} {a : Option Addr} {n : Int} (hb : H b = none) (hb1 : H b1 = none) (hne : b1 ≠ b) (k : R (.returned (.tuple #[.pointer a, vi n])) H) {u : FrameMode} (hu : settle u = .returning) :
    FinR R b b1 (.returned unitV) u ((H.upd b (.cells #[.pointer a] 33 (0, 0))).upd b1 (.cells #[vi n] 34 (0, 0))) := by
  refine ⟨⟨_, rfl⟩, hu, a, ⟨b, rfl, by rw [upd_ne _ _ (Ne.symm hne), upd_same]⟩, n, ⟨b1, rfl, ?_⟩, ?_⟩
  · show (if b1 = b then none else _) = _
    rw [if_neg hne, upd_same]
  · have := del_two (o := .cells #[.pointer a] 33 (0, 0)) (o1 := .cells #[vi n] 34 (0, 0)) hb hb1
    show R _ (Heap.delO (Heap.delO _ (some b)) (some b1))
    rw [this]; exact k
theorem fin_ret {a : Option Addr} (k : R (.returned (.tuple #[.pointer a, vi 0])) H) : ∀ b, H b = none → ∀ b1, H.upd b (.cells #[.pointer a] 33 (0, 0)) b1 = none →
    MeetsD prog 61 [.pointer (some ⟨b, 0, none⟩), .pointer (some ⟨b1, 0, none⟩)] .returning ((H.upd b (.cells #[.pointer a] 33 (0, 0))).upd b1 (.cells #[vi 0] 34 (0, 0))) (FinR R b b1) := by
  intro b hb b1 hb1
  have hne : b1 ≠ b := by rintro rfl; rw [upd_same] at hb1; cases hb1
  rw [upd_ne _ _ hne] at hb1
  refine specD_of func61 (by kernel_rfl) (fun t h => by cases h) ?_ (vc_caught0 ⟨b, 0, none⟩ ⟨b1, 0, none⟩ _ _) ?_
  · simp [argsR, SV.rep, SC.rep, one]
  unfold nf_caught0
  exact ⟨rfl, fin_at hb hb1 hne k rfl⟩
theorem fin_pan {e : Int} (k : R (.returned (.tuple #[.pointer none, vi e])) H) : ∀ b, H b = none → ∀ b1, H.upd b (.cells #[.pointer none] 33 (0, 0)) b1 = none →
    MeetsD prog 61 [.pointer (some ⟨b, 0, none⟩), .pointer (some ⟨b1, 0, none⟩)] (.panicking (stopE e)) ((H.upd b (.cells #[.pointer none] 33 (0, 0))).upd b1 (.cells #[vi 0] 34 (0, 0))) fun e u H' =>
      (∃ v : Value, e = .returned v) ∧ ((settle u = .returning ∧ ∃ a : Option Addr, (∃ b2, blockOf (.pointer (some ⟨b, 0, none⟩)) = some b2 ∧ H' b2 = some (.cells #[.pointer a] 33 (0, 0))) ∧
        ∃ n : Int, (∃ b2, blockOf (.pointer (some ⟨b1, 0, none⟩)) = some b2 ∧ (H'.delO (blockOf (.pointer (some ⟨b, 0, none⟩)))) b2 = some (.cells #[vi n] 34 (0, 0))) ∧ R (.returned (.tuple #[.pointer a, vi n])) ((H'.delO (blockOf (.pointer (some ⟨b, 0, none⟩)))).delO (blockOf (.pointer (some ⟨b1, 0, none⟩))))) ∨
        ∃ c' : List PanicEntry, settle u = .panicking c' ∧ R (.panicked c') H') := by
  intro b hb b1 hb1
  have hne : b1 ≠ b := by rintro rfl; rw [upd_same] at hb1; cases hb1
  rw [upd_ne _ _ hne] at hb1
  refine specD_of func61 (by kernel_rfl) (fun t h => by cases h) ?_ (vc_caught1 ⟨b, 0, none⟩ ⟨b1, 0, none⟩ e _ _) ?_
  · simp [argsR, SV.rep, SC.rep, one]
  unfold nf_caught1
  refine ⟨rfl, fun _ => none, none_le _, ptr rfl (ptr rfl ⟨#[.pointer none], 33, ⟨by rw [upd_ne _ _ (Ne.symm hne), upd_same], rfl, by simp⟩, rfl, ptr rfl (ptr rfl ⟨#[vi 0], 34, ⟨by rw [upd_ne _ _ hne, upd_same], rfl, by simp⟩, rfl, ?_⟩)⟩)⟩
  have e1 : Heap.upd (Heap.upd (Heap.upd (Heap.upd H b (.cells #[.pointer none] 33 (0, 0))) b1 (.cells #[vi 0] 34 (0, 0))) b (.cells (writeCells #[.pointer none] 0 [.pointer none]) 33 (0, 0))) b1 (.cells (writeCells #[vi 0] 0 [vi e]) 34 (0, 0))
      = Heap.upd (Heap.upd H b (.cells #[.pointer none] 33 (0, 0))) b1 (.cells #[vi e] 34 (0, 0)) := by
    funext x
    unfold Heap.upd
    by_cases h1 : x = b1
    · subst h1; simp [writeCells]
    · by_cases h2 : x = b
      · subst h2; simp [h1, writeCells]
      · simp [h1, h2]
  rw [e1]
  have h5 := fin_at (R := R) (u := (recU (.panicking (stopE e))).2) hb hb1 hne k rfl
  exact ⟨h5.1, .inl h5.2⟩
end
end Cr

/- A tree's points; trees built, points inserted and deleted. -/
set_option linter.unusedVariables false
set_option linter.unusedSimpArgs false
namespace Cr
open Go Sx Stb Bt
open Go.Proofs.Try
set_option maxRecDepth 100000
def h_tpts : Hints := { loops := [(3, ⟨[0, 9, 10], [.row 3 28 4, .f 11 (.int .i64)], []⟩)] }
def nf_tpts (g : Option Addr) (R : Ending → Heap → Prop) (H : Heap) : Prop := Meets prog (28 : Nat) [Value.pointer g] H fun (e : Ending) (H' : Nat → Option Obj) ↦ ∃ (a : Option Addr), ∃ (n : Nat), ∃ (c : Nat), e = Ending.returned (Value.slice a n c) ∧ g = g ∧ a = a ∧ n = n ∧ c = c ∧ (↑n : Int) = (↑n : Int) ∧ LoopP (fun (K : (List (List Value) × Int × PUnit) × PUnit → (Nat → Option Obj) → Prop) (p : (List (List Value) × Int × PUnit) × PUnit) (H : Nat → Option Obj) ↦ Br (decide (p.fst.snd.fst < (↑n : Int))) (((0 : Int) ≤ p.fst.snd.fst ∧ p.fst.snd.fst < (↑n : Int)) ∧ PtrK a fun (A : Addr) ↦ PtrK (some (Addr.add A (Int.toNat p.fst.snd.fst * (1 : Nat)))) fun (a_1 : Addr) ↦ ∃ (n_1 : Int), Heap.has H a_1 [Value.int IntKind.i64 n_1] ∧ Meets prog (50 : Nat) [Value.pointer g, Value.int IntKind.i64 n_1] H fun (e : Ending) (H' : Nat → Option Obj) ↦ ∃ (b : Bool), ∃ (a_2 : Option Addr), ∃ (n_2 : Nat), ∃ (c_1 : Nat), ∃ (n_3 : Int), ∃ (xs : List Int), List.length xs = (4 : Nat) ∧ ∃ (xs_1 : List Int), List.length xs_1 = (4 : Nat) ∧ ∃ (b_1 : Bool), e = Ending.returned (Value.tuple { toList := [Value.agg { toList := Value.bool b :: Value.slice a_2 n_2 c_1 :: Value.int IntKind.i64 n_3 :: List.append (List.map (Value.int IntKind.i64) xs) (flatD [Seg.ints IntKind.i64 (4 : Nat) xs_1]) }, Value.bool b_1] }) ∧ ∃ (es2 : List (List Value)), SliceAt H' (Value.slice a_2 n_2 c_1) (4 : Nat) es2 ∧ List.length (List.append p.fst.fst es2) * (32 : Nat) ≤ (140737488355328 : Nat) ∧ g = g ∧ a = a ∧ n = n ∧ c = c ∧ (↑n : Int) = (↑n : Int) ∧ K ((List.append p.fst.fst es2, IntKind.wrap IntKind.i64 (p.fst.snd.fst + (1 : Int)), PUnit.unit), PUnit.unit) H') (∀ (v : Value) (H' : Nat → Option Obj), H ≤ H' → (∀ (b : Nat), blockOf v = some b → H b = none) → (∀ (b : Nat) (o : Obj), H' b = some o → H b = some o ∨ blockOf v = some b) → RowAt H' v (28 : Nat) (4 : Nat) p.fst.fst → Meets prog (59 : Nat) [v] H' fun (e : Ending) (H' : Nat → Option Obj) ↦ ∃ (a : Option Addr), ∃ (n : Nat), ∃ (c : Nat), e = Ending.returned (Value.slice a n c) ∧ ∃ (es : List (List Value)), RowAt H' v (28 : Nat) (4 : Nat) es ∧ R (Ending.returned (Value.slice a n c)) (Heap.delO H' (blockOf v)))) (([], (0 : Int), PUnit.unit), PUnit.unit) H'
theorem vc_tpts (g : Option Addr) (R : Ending → Heap → Prop) (H : Heap) : vcFun prog h_tpts f42 [SV.c (SC.v (Value.pointer g))] R H = nf_tpts g R H := by kernel_rfl

theorem delH_keep {H : Heap} {o : Option Nat} {x : Nat} {ob : Obj} (hn : ∀ k, o = some k → k ≠ x) (h : H x = some ob) : H.delO o x = some ob := by
  cases o with
  | none => exact h
  | some k => show (if x = k then none else H x) = _; rw [if_neg (Ne.symm (hn k rfl))]; exact h
def ptsM (m : M) (i : Int) : List Pt := ((m i).getD nd0).pts
theorem ptsM_some {m : M} {i : Int} {d : Nd} (h : m i = some d) : ptsM m i = d.pts := by unfold ptsM; rw [h]; rfl
theorem flat_four {α β : Type} {J : Nat → List α} {f : α → List β} : (J 0 ++ (J 1 ++ (J 2 ++ J 3))).flatMap f = (J 0).flatMap f ++ ((J 1).flatMap f ++ ((J 2).flatMap f ++ (J 3).flatMap f)) := by simp [List.flatMap_append]
theorem ChP_pts {m : M} : ∀ {I : List Int} {L : List Pt}, ChP m I L → I.flatMap (ptsM m) = L
  | [id], L, h => by simp [ptsM_some h.2]
  | id :: nx :: r, L, h => by
    rw [List.flatMap_cons, ChP_pts h.2.2, ptsM_some h.2.1]
    exact List.take_append_drop 4 L
theorem TrP_pts {m : M} : ∀ {h : Nat} {id : Int} {L : List Pt} {I : List Int}, (∀ p ∈ L, PtR p) → TrP m h id L I → (I.flatMap (ptsM m)).Perm L
  | 0, id, L, I, _, h => by rw [ChP_pts h.2]
  | n + 1, id, L, I, hr, h => by
    unfold TrP at h
    split at h
    · rw [ChP_pts h.2]
    · obtain ⟨ks, cs, J, h1, h2, h3, rfl, h4⟩ := h
      have sub : ∀ q, q < 4 → ((J q).flatMap (ptsM m)).Perm (quarter n q L) := fun q hq => by
        rcases h4 q hq with ⟨e1, _, _, e4⟩ | ⟨e1, _, _, e4⟩
        · rw [e1, e4]; exact List.Perm.refl _
        · exact TrP_pts (fun p hp => hr p (List.mem_filter.1 hp).1) e4
      rw [List.flatMap_cons, ptsM_some h1, List.nil_append, flat_four]
      exact ((sub 0 (by omega)).append ((sub 1 (by omega)).append ((sub 2 (by omega)).append (sub 3 (by omega))))).trans (quarters_perm hr)
theorem ptsM_len {m : M} (hD : Dom m) : ∀ I : List Int, (I.flatMap (ptsM m)).length ≤ 4 * I.length
  | [] => by simp
  | i :: I => by
    rw [List.flatMap_cons, List.length_append, List.length_cons]
    have := ptsM_len hD I
    have h2 : (ptsM m i).length ≤ 4 := by
      cases e : m i with
      | none => unfold ptsM; rw [e]; simp
      | some d => rw [ptsM_some e]; exact hD.few e
    omega
section
variable {R : Ending → Heap → Prop} {H : Heap}
theorem s_tpts {g : Addr} {r : Nat} {m : M} (hg : GroveAt H g r m) (hD : Dom m) (k : ∀ v H', H ≤ H' → (∀ b, blockOf v = some b → H b = none) → RowAt H' v tPt 4 (pts (sortP ((idsOf m).flatMap (ptsM m)))) → R (.returned v) H') :
    Meets prog 42 [.pointer (some g)] H R := by
  refine spec_of func42 (by kernel_rfl) (fun t h => by cases h) ?_ (vc_tpts (some g) R H) ?_
  · simp [argsR, SV.rep, SC.rep, one]
  unfold nf_tpts
  refine s_ids hg fun v0 H0 hle0 hfr0 hrow0 => ?_
  obtain ⟨a0, c0, rfl⟩ := row_val hrow0
  have hil : (idsOf m).length ≤ 255 := idsBelow_len m 255
  refine ⟨_, _, _, rfl, ?_⟩
  simp only [true_and]
  generalize hI : idsOf m = I at *
  have hIl : (cells I).length = I.length := by simp [cells]
  rw [hIl] at hrow0 ⊢
  refine ⟨fun p H' => ∃ t : Nat, p.1.1 = pts ((I.take t).flatMap (ptsM m)) ∧ p.1.2.1 = (t : Int) ∧ t ≤ I.length ∧ H0 ≤ H', fun p _ => (I.length - p.1.2.1).toNat, ⟨0, by simp, rfl, by omega, heap_refl _⟩, ?_⟩
  rintro ⟨⟨e1, i, _⟩, _⟩ H1 ⟨t, h1, hi, ht, hle1⟩
  simp only at h1 hi ⊢
  subst h1; subst hi
  refine br (fun q => ?_) fun q => ?_
  · simp only [decide_eq_true_eq] at q
    obtain ⟨x, _, htk, hx⟩ := drop_cons (l := I) (k := t) (by omega)
    obtain ⟨A, e, g0⟩ := ir_get (slice_le (row_slice hrow0) hle1) hx
    subst e
    rw [Int.toNat_natCast, w64 (by omega)]
    refine ⟨⟨by omega, by omega⟩, ptr rfl (ptr rfl ⟨_, g0, s_get (hg.le (heap_trans hle0 hle1)) (fun d e => Nat.le_trans (hD.few e) (by omega)) fun v H2 hle2 hv => ?_⟩)⟩
    obtain ⟨a, n, c, rfl, hs, hk, hc⟩ := hv
    have hfl := ptsM_len hD (I.take (t + 1))
    rw [htk, List.flatMap_append, List.length_append] at hfl
    simp only [List.flatMap_cons, List.flatMap_nil, List.append_nil, List.length_append, List.length_take, List.length_singleton] at hfl
    refine ⟨_, a, n, c, _, _, hk, _, hc, _, rfl, _, hs, ?_, ⟨t + 1, ?_, by omega, by omega, heap_trans hle1 hle2⟩, by omega⟩
    · show (pts _ ++ pts (ptsM m x)).length * 32 ≤ _
      simp only [pts, List.length_append, List.length_map]
      omega
    · rw [htk, List.flatMap_append]
      show pts _ ++ pts (ptsM m x) = _
      simp [pts]
  · simp only [decide_eq_false_iff_not] at q
    obtain rfl : t = I.length := by omega
    rw [List.take_length]
    have hfl := ptsM_len hD I
    refine fun v1 H2 g1 g2 g3 g4 => s_srt (row_slice g4) (by omega) fun v2 H3 hle3 hfr3 hrow3 => ?_
    obtain ⟨a2, c2, rfl⟩ := row_val hrow3
    have hle2 : H ≤ H1 := heap_trans hle0 hle1
    have ne : ∀ b, blockOf (.slice a2 (pts (sortP (I.flatMap (ptsM m)))).length c2) = some b → H3 b ≠ none := fun b e => by
      rcases hrow3 with ⟨q1, _⟩ | ⟨b2, o, cap, cc, q1, q2, _⟩
      · rw [q1] at e; cases e
      · rw [q1] at e; cases e; rw [q2]; simp
    refine ⟨_, _, _, rfl, _, row_le g4 fun b o _ e => hle3 _ _ e, k _ _ (le_delO (heap_trans hle2 (heap_trans g1 hle3)) (fresh_le hle2 g2)) (fresh_le (heap_trans hle2 g1) hfr3) (row_le hrow3 fun b o e q => delH_keep (fun k' e' => ?_) q)⟩
    rintro rfl
    have h1 := hfr3 _ e
    rcases g4 with ⟨q1, _⟩ | ⟨b2, o, cap, cc, q1, q2, _⟩
    · rw [q1] at e'; cases e'
    · rw [q1] at e'; cases e'; rw [h1] at q2; cases q2
end
end Cr

/- Trees built, points inserted and deleted. -/
set_option linter.unusedVariables false
set_option linter.unusedSimpArgs false
namespace Cr
open Go Sx Stb Bt
open Go.Proofs.Try
set_option maxRecDepth 100000
/-- The tree of points L; its nodes are the numbers I. -/
structure TreeOK (m : M) (L : List Pt) (I : List Int) : Prop where
  dom : Dom m
  tr : TrP m 32 1 L I
  nd : I.Nodup
  all : ∀ i, m i ≠ none → i ∈ I
  lok : LOK L
theorem TreeOK.iff {m : M} {L : List Pt} {I : List Int} (h : TreeOK m L I) (i : Int) : m i ≠ none ↔ i ∈ I := ⟨h.all i, TrP_there h.tr i⟩
theorem TreeOK.free {m : M} {L : List Pt} {I : List Int} (h : TreeOK m L I) : (freeL m).length + nds 32 L = 255 := by
  rw [← TrP_len h.tr]
  have h1 : I.Perm (numsL.filter fun i => !(m i).isNone) := by
    refine (List.perm_ext_iff_of_nodup h.nd ((numsL_rise.imp fun h => by omega : numsL.Nodup).filter _)).2 fun i => ?_
    rw [List.mem_filter, mem_numsL, ← h.iff]
    cases e : m i with
    | none => simp
    | some d => have := h.dom i d e; simp; omega
  have h2 : ∀ (l : List Int) (f : Int → Bool), (l.filter f).length + (l.filter fun i => !f i).length = l.length := fun l f => by
    induction l with
    | nil => rfl
    | cons x l ih => by_cases e : f x <;> simp [List.filter_cons, e] <;> omega
  rw [h1.length_eq]
  have := h2 numsL fun i => (m i).isNone
  rw [show numsL.length = 255 by simp] at this
  exact this
theorem ids_rise (m : M) (t : Nat) : (idsBelow m t).Pairwise (· < ·) := by
  unfold idsBelow
  refine List.Pairwise.filter _ ?_
  rw [List.pairwise_map]
  exact List.pairwise_lt_range.imp fun h => by omega
theorem TreeOK.ids {m : M} {L : List Pt} {I : List Int} (h : TreeOK m L I) : (idsOf m).Perm I :=
  (List.perm_ext_iff_of_nodup ((ids_rise m 255).imp fun h => by omega) h.nd).2 fun i => by
    show i ∈ idsBelow m 255 ↔ _
    rw [mem_idsBelow, ← h.iff]
    cases e : m i with
    | none => simp
    | some d => have := h.dom i d e; simp; omega
theorem TreeOK.pts {m : M} {L : List Pt} {I : List Int} (h : TreeOK m L I) : ((idsOf m).flatMap (ptsM m)).Perm L := (h.ids.flatMap_right _).trans (TrP_pts h.lok.range h.tr)
abbrev mE : M := setM (fun _ => none) 1 ⟨true, [], 0, z4, z4⟩
theorem mE_one : mE 1 = some nd1 := setM_same
theorem mE_ne {i : Int} (h : i ≠ 1) : mE i = none := setM_ne h
theorem mE_at {i : Int} (hi : mE i ≠ none) : i = 1 := by
  by_cases e : i = 1
  · exact e
  · exact absurd (mE_ne e) hi
theorem freeL_mE : freeL mE = numsL.tail := by
  have h : freeL (fun _ => none) = numsL := List.filter_eq_self.2 fun i _ => rfl
  exact freeL_take (i := 1) (r := numsL.tail) (by rw [h]; rfl)
theorem mE_free : (freeL mE).length = 254 := by rw [freeL_mE]; simp
theorem dom_mE : Dom mE := Dom.none.set ⟨by omega, by omega⟩ (leafOK LOK.nil (by simp) (by omega))
theorem tree_mE : TreeOK mE [] [1] := ⟨dom_mE, TrP_nil setM_same, by simp, fun i hi => by rw [mE_at hi]; simp, LOK.nil⟩
theorem low_mE : Low mE := fun i j hi hj => by
  obtain rfl := mE_at hi
  have h1 := (mem_freeL (m := mE)).1 hj
  have : j ≠ 1 := by rintro rfl; rw [mE_one] at h1; cases h1.2.2
  omega
theorem pcode_bad {p : Pt} (h : pcode p ≠ 0) : ¬ ptOK p := fun e => h (pcode_ok.2 e)
/-- A tree that is grown out of nothing. -/
theorem grown {L : List Pt} (hL : LOK L) : (nds 32 L ≤ 255 → ∃ m I, growF 32 mE 1 L = some m ∧ (Dom m → TreeOK m L I) ∧ Low m) ∧ (255 < nds 32 L → growF 32 mE 1 L = none) := by
  have hs := growF_spec 32 mE 1 L (by rw [mE_one]; simp)
  unfold GrowOK at hs
  rw [mE_free] at hs
  refine ⟨fun h => ?_, fun h => hs.2 (by omega)⟩
  obtain ⟨m1, d, I, e1, e2, e3, e4⟩ := hs.1 (by omega)
  have h1 : m1 1 ≠ none := by rw [e2.keep (by rw [mE_one]; simp), mE_one]; simp
  have hall : ∀ i, setM m1 1 d i ≠ none → i ∈ (1 :: I : List Int) := fun i hi => by
    by_cases e : i = 1
    · simp [e]
    · by_cases hI : i ∈ I
      · exact List.mem_cons_of_mem _ hI
      · exfalso; rw [setM_ne e, e2.same i hI] at hi; exact e (mE_at hi)
  refine ⟨_, 1 :: I, e1, fun hD => ⟨hD, e4, List.nodup_cons.2 ⟨e2.off (by rw [mE_one]; simp), e2.nodup⟩, hall, hL⟩, fun i j hi hj => ?_⟩
  rw [freeL_set h1, e2.free] at hj
  rcases List.mem_cons.1 (hall i hi) with rfl | hi'
  · have h2 := (mem_freeL (m := mE)).1 (List.mem_of_mem_drop hj)
    have : j ≠ 1 := by rintro rfl; rw [mE_one] at h2; cases h2.2.2
    omega
  · have h2 := (e2.mem i).1 hi'
    have h3 := freeL_rise mE
    rw [← List.take_append_drop I.length (freeL mE), List.pairwise_append] at h3
    exact h3.2.2 i h2 j hj
theorem rise_of {L : List Pt} (h : Srtd ltI L) (h2 : ∀ (i : Nat) (p q : Pt), L[i]? = some p → L[i + 1]? = some q → q.id ≠ p.id) : L.Pairwise fun p q => p.id < q.id := by
  induction L with
  | nil => exact List.Pairwise.nil
  | cons x L ih =>
    have h1 := List.pairwise_cons.1 h
    have hr := ih h1.2 fun i p q hp hq => h2 (i + 1) p q (by simpa using hp) (by simpa using hq)
    refine List.pairwise_cons.2 ⟨fun y hy => ?_, hr⟩
    cases L with
    | nil => cases hy
    | cons z L =>
      have a1 := h1.1 z (List.mem_cons_self ..)
      have a2 := h2 0 x z rfl rfl
      simp only [decide_eq_false_iff_not] at a1
      rcases List.mem_cons.1 hy with rfl | hy
      · omega
      · have := (List.pairwise_cons.1 hr).1 y hy
        omega
section
variable {R : Ending → Heap → Prop} {H : Heap}
theorem s_build {v : Value} {l : List Pt} (hs : SliceAt H v 4 (pts l)) (hl : l.length ≤ 50000) (hp : ∀ p ∈ l, PtR p)
    (k1 : ∀ (i : Nat) (p : Pt), l[i]? = some p → (∀ (j : Nat) (q : Pt), j < i → l[j]? = some q → ptOK q) → pcode p ≠ 0 → R (.returned (.tuple #[.pointer none, vi (pcode p)])) H)
    (k2 : (∀ p ∈ l, ptOK p) → ¬ (l.map Pt.id).Nodup → ∀ H', H ≤ H' → R (.returned (.tuple #[.pointer none, vi 22])) H')
    (k3 : (∀ p ∈ l, ptOK p) → (l.map Pt.id).Nodup → 255 < nds 32 (sortP l) → ∀ H', H ≤ H' → R (.returned (.tuple #[.pointer none, vi 10])) H')
    (k4 : (∀ p ∈ l, ptOK p) → (l.map Pt.id).Nodup → nds 32 (sortP l) ≤ 255 → ∀ b r m I H', H b = none → H r = none → b ≠ r → H ≤ H' → GroveAt H' ⟨b, 0, none⟩ r m → TreeOK m (sortP l) I → Low m → R (.returned (.tuple #[.pointer (some ⟨b, 0, none⟩), vi 0])) H') :
    Meets prog 22 [v] H R := by
  obtain ⟨a, n, c, e, hn⟩ := hs
  subst e
  have hs : SliceAt H (.slice a n c) 4 (pts l) := ⟨a, n, c, rfl, hn⟩
  have hln : l.length = n := by simpa [pts] using hn.1
  refine spec_of func22 (by kernel_rfl) (fun t h => by cases h) ?_ (vc_build a n c R H) ?_
  · simp [argsR, SV.rep, SC.rep, one]
  unfold nf_build
  simp only [true_and]
  refine ⟨fun p H' => ∃ t : Nat, p.1.1 = (t : Int) ∧ t ≤ n ∧ (∀ (j : Nat) (q : Pt), j < t → l[j]? = some q → ptOK q) ∧ H' = H, fun p _ => (n - p.1.1).toNat, ⟨0, rfl, by omega, by omega, rfl⟩, ?_⟩
  rintro ⟨⟨i, _⟩, _⟩ H0 ⟨t, hi, ht, hok, rfl⟩
  simp only at hi ⊢
  subst hi
  refine br (fun q => ?_) fun q => ?_
  · simp only [decide_eq_true_eq] at q
    obtain ⟨p, _, htk, hx⟩ := drop_cons (l := l) (k := t) (by omega)
    obtain ⟨A, e, g⟩ := pr_get hs hx
    subst e
    rw [Int.toNat_natCast, w64 (by omega)]
    refine ⟨⟨by omega, by omega⟩, ptr rfl (ptr rfl ⟨_, _, _, _, g, s_pchk (.inl ⟨_, rfl, br (fun q1 => ?_) fun q1 => ?_⟩)⟩)⟩
    · exact k1 t p hx hok (by simpa using q1)
    · refine ⟨⟨t + 1, by omega, by omega, fun j y hj hy => ?_, rfl⟩, by omega⟩
      rcases Nat.lt_or_ge j t with h | h
      · exact hok j y h hy
      · obtain rfl : j = t := by omega
        rw [hx] at hy; cases hy
        exact pcode_ok.1 (by simpa using q1)
  · simp only [decide_eq_false_iff_not] at q
    obtain rfl : t = n := by omega
    have hall : ∀ p ∈ l, ptOK p := fun p hm => by
      obtain ⟨j, hj⟩ := List.mem_iff_getElem?.1 hm
      exact hok j p (by have := (List.getElem?_eq_some_iff.1 hj).1; omega) hj
    refine s_srt hs (by omega) fun v1 H1 hle1 hfr1 hrow1 => ?_
    obtain ⟨a1, c1, rfl⟩ := row_val hrow1
    have hsl := sortP_len l
    have hsrt : Srtd ltI (sortP l) := isort_srtd swo_I l
    have hperm := perm_sortP l
    refine .inl ⟨_, _, _, rfl, s_twice (row_slice hrow1) (by omega) (fun i p q hp1 hq1 he => .inl ⟨_, rfl, k2 hall (fun hnd => ?_) _ hle1⟩) fun hno => .inl ⟨_, rfl, ?_⟩⟩
    · have hr := sortP_rise hnd
      obtain ⟨i1, rfl⟩ := List.getElem?_eq_some_iff.1 hp1
      obtain ⟨i2, rfl⟩ := List.getElem?_eq_some_iff.1 hq1
      have := List.pairwise_iff_getElem.1 hr i (i + 1) i1 i2 (by omega)
      omega
    have hrise := rise_of hsrt hno
    have hnd : (l.map Pt.id).Nodup := (hperm.map Pt.id).nodup_iff.1 (rise_nodup hrise)
    have hL : LOK (sortP l) := ⟨fun p hm => hall p (hperm.subset hm), hrise, fun p hm => hp p (hperm.subset hm)⟩
    refine s_empty fun r b hr hb hne H2 hle2 hg2 => .inl ⟨_, rfl, _, none_le _, s_croot (.inl ⟨keep_none _ _, _, _, _, rfl, ?_⟩)⟩
    have hle := heap_trans hle1 hle2
    have nn : ∀ x, H1 x = none → H0 x = none := fun x e => by
      cases e' : H0 x with
      | none => rfl
      | some o => rw [hle1 _ _ e'] at e; cases e
    have up : ∀ H', GMod r H2 H' → H0 ≤ H' := fun H' hm x o e => hm x o (by rintro rfl; rw [nn _ hr] at e; cases e) (hle _ _ e)
    have hc0 : Cor 32 0 := ⟨by omega, by decide, by decide⟩
    obtain ⟨g1, g2⟩ := grown hL
    refine s_grow 32 (Nat.le_refl _) (by omega) hc0 hc0 (by omega) hg2 dom_mE hL (slice_le (row_slice hrow1) hle2) ⟨by omega, by omega⟩ (fun m' H3 e3 D3 g3 m3 => .inl ⟨keep_none _ _, rfl, fin_ret ?_⟩) fun e3 H3 m3 => .inr ⟨_, rfl, fin_pan ?_⟩
    · by_cases h255 : nds 32 (sortP l) ≤ 255
      · obtain ⟨m, I, f1, f2, f3⟩ := g1 h255
        rw [f1] at e3; cases e3
        exact k4 hall hnd h255 b r _ I H3 (nn _ hb) (nn _ hr) (Ne.symm hne) (up _ m3) g3 (f2 D3) f3
      · rw [g2 (by omega)] at e3; cases e3
    · by_cases h255 : nds 32 (sortP l) ≤ 255
      · obtain ⟨m, I, f1, f2, f3⟩ := g1 h255
        rw [f1] at e3; cases e3
      · exact k3 hall hnd (by omega) _ (up _ m3)
theorem s_tins {g : Addr} {r : Nat} {m : M} {L : List Pt} {I : List Int} {p : Pt} (hg : GroveAt H g r m) (hT : TreeOK m L I) (hpr : PtR p)
    (k1 : pcode p ≠ 0 → R (.returned (.tuple #[.pointer none, vi (pcode p)])) H)
    (k2 : ptOK p → p.id ∈ L.map Pt.id → ∀ H', H ≤ H' → R (.returned (.tuple #[.pointer none, vi 22])) H')
    (k3 : ptOK p → p.id ∉ L.map Pt.id → 255 < nds 32 (insP L p) → ∀ H', H ≤ H' → R (.returned (.tuple #[.pointer none, vi 10])) H')
    (k4 : ptOK p → p.id ∉ L.map Pt.id → nds 32 (insP L p) ≤ 255 → ∀ b r' m' I' H', H b = none → H r' = none → b ≠ r' → H ≤ H' → GroveAt H' ⟨b, 0, none⟩ r' m' → TreeOK m' (insP L p) I' → (Low m → ∀ i ∈ I, i ∈ I') → Chg m m' (32 + nch L.length) →
      R (.returned (.tuple #[.pointer (some ⟨b, 0, none⟩), vi 0])) H') :
    Meets prog 45 [.pointer (some g), ptV p] H R := by
  refine spec_of func45 (by kernel_rfl) (fun t h => by cases h) ?_ (vc_tins (some g) p.id p.x p.y p.data R H) ?_
  · simp [argsR, SV.rep, SegsRep, SC.rep, one]
  unfold nf_tins
  have hlI : (idsOf m).length ≤ 255 := idsBelow_len m 255
  have hPp := hT.pts
  have hbig : L.length ≤ 1020 := by
    rw [← hPp.length_eq]
    have := ptsM_len hT.dom (idsOf m); omega
  refine s_pchk (.inl ⟨_, rfl, br (fun q => k1 (by simpa using q)) fun q => ?_⟩)
  have hok : ptOK p := pcode_ok.1 (by simpa using q)
  refine ⟨_, none_le _, s_tpts hg hT.dom fun v1 H1 hle1 hfr1 hrow1 => ?_⟩
  rw [sortP_perm hT.lok.rise hPp] at hrow1
  obtain ⟨a1, c1, rfl⟩ := row_val hrow1
  have ids : ∀ i : Nat, L.findIdx? (fun x => x.id == p.id) = some i → p.id ∈ L.map Pt.id := fun i hi => by
    rw [List.findIdx?_eq_some_iff_getElem] at hi
    obtain ⟨h1, h2, _⟩ := hi
    rw [← eq_of_beq h2]
    exact List.mem_map_of_mem (List.getElem_mem h1)
  refine .inl ⟨keep_none _ _, _, _, _, rfl, s_find (row_slice hrow1) (by omega) (fun i hi => .inl ⟨keep_none _ _, _, rfl, br (fun _ => k2 hok (ids i hi) _ hle1) fun q1 => by simp at q1⟩) fun hi => .inl ⟨keep_none _ _, _, rfl, br (fun q1 => by simp at q1) fun _ => ?_⟩⟩
  have hno : p.id ∉ L.map Pt.id := fun hm => by
    obtain ⟨x, hx, e⟩ := List.mem_map.1 hm
    have := List.findIdx?_eq_none_iff.1 hi x hx
    simp [e] at this
  refine s_gcl hT.dom (hg.le hle1) fun r2 b hr hb hne H2 hle2 hg2 => .inl ⟨_, rfl, _, none_le _, s_croot (.inl ⟨keep_none _ _, _, _, _, rfl, ?_⟩)⟩
  have hle := heap_trans hle1 hle2
  have nn : ∀ x, H1 x = none → H x = none := fun x e => by
    cases e' : H x with
    | none => rfl
    | some o => rw [hle1 _ _ e'] at e; cases e
  have up : ∀ H', GMod r2 H2 H' → H ≤ H' := fun H' hm x o e => hm x o (by rintro rfl; rw [nn _ hr] at e; cases e) (hle _ _ e)
  have hc0 : Cor 32 0 := ⟨by omega, by decide, by decide⟩
  obtain ⟨T, hT1⟩ := TrP_head hT.tr
  have hfree := hT.free
  have htr := hT.tr
  have hnd := hT.nd
  rw [hT1] at htr hnd
  refine s_add 32 (Nat.le_refl _) (by omega) hc0 hc0 (by omega) hg2 hT.dom hT.lok htr hnd hok hpr hno (fun hle3 m' T' H3 f1 f2 f3 f4 D3 g3 m3 => .inl ⟨keep_none _ _, rfl, fin_ret ?_⟩) fun hlt H3 m3 => .inr ⟨_, rfl, fin_pan (k3 hok hno (by omega) _ (up _ m3))⟩
  refine k4 hok hno (by omega) b r2 m' (1 :: T') H3 (nn _ hb) (nn _ hr) (Ne.symm hne) (up _ m3) g3 ⟨D3, f1, f2.nodup, fun i hi => ?_, hT.lok.ins hno hok hpr⟩ (fun hlow i hi => f3 hlow i (hT1 ▸ hi)) f4
  by_cases h1 : i ∈ (1 :: T' : List Int)
  · exact h1
  · exfalso
    by_cases h2 : i ∈ (1 :: T : List Int)
    · exact hi (f2.gone i h2 h1)
    · rw [f2.same i h2 h1] at hi
      exact h2 (hT1 ▸ hT.all i hi)
theorem s_tdel {g : Addr} {r : Nat} {m : M} {L : List Pt} {I : List Int} {p : Pt} (hg : GroveAt H g r m) (hT : TreeOK m L I) (hpr : PtR p)
    (k1 : (∀ x ∈ L, mt p x = false) → ∀ H', H ≤ H' → R (.returned (.tuple #[.pointer none, vi 14])) H')
    (k2 : (∃ x ∈ L, mt p x = true) → ∀ b r' m' I' H', H b = none → H r' = none → b ≠ r' → H ≤ H' → GroveAt H' ⟨b, 0, none⟩ r' m' → TreeOK m' (cutP L p) I' → R (.returned (.tuple #[.pointer (some ⟨b, 0, none⟩), vi 0])) H') :
    Meets prog 44 [.pointer (some g), ptV p] H R := by
  refine spec_of func44 (by kernel_rfl) (fun t h => by cases h) ?_ (vc_tdel (some g) p.id p.x p.y p.data R H) ?_
  · simp [argsR, SV.rep, SegsRep, SC.rep, one]
  unfold nf_tdel
  have hIl := TrP_len hT.tr
  have hPp := TrP_pts hT.lok.range hT.tr
  have hbig : L.length ≤ 1020 := by
    rw [← hPp.length_eq]
    have := ptsM_len hT.dom I
    have := hT.free
    omega
  refine s_gcl hT.dom hg fun r2 b hr hb hne H2 hle2 hg2 => .inl ⟨_, rfl, _, none_le _, s_croot (.inl ⟨keep_none _ _, _, _, _, rfl, ?_⟩)⟩
  have up : ∀ H', GMod r2 H2 H' → H ≤ H' := fun H' hm x o e => hm x o (by rintro rfl; rw [hr] at e; cases e) (hle2 _ _ e)
  have hc0 : Cor 32 0 := ⟨by omega, by decide, by decide⟩
  obtain ⟨T, hT1⟩ := TrP_head hT.tr
  have htr := hT.tr
  have hnd := hT.nd
  rw [hT1] at htr hnd
  refine s_cut 32 (Nat.le_refl _) (by omega) hc0 hc0 (by omega) hg2 hT.dom hT.lok htr hnd hpr (fun hex m' T' H3 f1 f2 D3 g3 m3 => .inl ⟨keep_none _ _, rfl, fin_ret ?_⟩) fun hno H3 m3 => .inr ⟨_, rfl, fin_pan (k1 hno _ (up _ m3))⟩
  refine k2 hex b r2 m' (1 :: T') H3 hb hr (Ne.symm hne) (up _ m3) g3 ⟨D3, f1, f2.nodup, fun i hi => ?_, hT.lok.sub List.filter_sublist⟩
  by_cases h1 : i ∈ (1 :: T' : List Int)
  · exact h1
  · exfalso
    by_cases h2 : i ∈ (1 :: T : List Int)
    · exact hi (f2.gone i h2 h1)
    · rw [f2.same i h2 h1] at hi
      exact h2 (hT1 ▸ hT.all i hi)
end
end Cr
