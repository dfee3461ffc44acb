import Derived.ChangeArms
import Derived.ProofKit
import Derived.Test.YtbiidlmhadihlaaX3
set_option linter.unusedSimpArgs false
set_option linter.unusedVariables false
set_option maxRecDepth 100000
section
namespace Go.Proofs.Ytbiidlmhadihlaa
open Go.AM Go.Raft
section
section
variable {S : St} {a : Nat} {c : Core} {O : Nat → Prop}
theorem j91 (m : Letter) (ev : V) (snap : List UInt8) {b : Nat} {B : St} {lv wv dv ov : V} {rows : List (List V)} (wB : WF B) (hB : CoreAt B a c lv wv dv ov rows) (x : Ext B S) (hb : S.heap.get b = some (.row 0 13 [cellsL m ev])) (hno : ¬ own a lv wv dv ov b) {lv6 : V} {l6 : List Entry} (h6 : Mn S 3 lv6 (l6.map encE)) (hb6 : ∀ y, blkOf lv6 = some y → B.next ≤ y) :
  Ok (fun k K => m91_j0 (callD Try.prog dPl dLv k) k K (.ptr a 0 0 0) (.str snap) (.ptr b 0 0 0) lv6 S) (fun u S' => u = .tup [] ∧ ∃ O', CoreIn S' a { c with h := { c.h with base := m.index, baseTerm := m.at', members := m.members, snap := snap, log := l6 }, sure := m.index, way := none } O' ∧ Mv (own a lv wv dv ov) B O' S') := by
 have w := x.wf wB
 have xb : Ext S (⟨S.next + 33, S.heap⟩ : St) := (Ext.refl S).bump 33
 have x0 := x.trans xb
 have w0 := xb.wf w
 have h0 := hB.ext wB x0
 have g0 : (⟨S.next + 33, S.heap⟩ : St).heap.get b = some (.row 0 13 [cellsL m ev]) := hb
 have n60 : ∀ y, blkOf lv6 = some y → ¬ own a lv wv dv ov y := fun y hy hO => by
  have h1 := hb6 y hy
  have h2 := own_lt wB hB hO
  omega
 have l0 : Mn (⟨S.next + 33, S.heap⟩ : St) 3 lv6 (l6.map encE) := Mn.fr h6 xb.next fun y b _ => xb.old y b
 obtain ⟨S1, q1, h1, m1, _⟩ := h0.w_base w0 m.index
 have w1 := m1.wf w0
 obtain ⟨g1, no1⟩ := box_mv w0 g0 hno m1
 obtain ⟨l1, n61⟩ := l0.mv n60 m1
 obtain ⟨S2, q2, h2', m2, _⟩ := h1.w_baseTerm w1 m.at'
 have h2 : CoreAt S2 a { c with h := { c.h with base := m.index, baseTerm := m.at' } } lv wv dv ov rows := h2'
 clear h2'
 have w2 := m2.wf w1
 obtain ⟨g2, no2⟩ := box_mv w1 g1 no1 m2
 obtain ⟨l2, n62⟩ := l1.mv n61 m2
 obtain ⟨S3, q3, h3', m3, _⟩ := h2.w_mem w2 m.members
 have h3 : CoreAt S3 a { c with h := { c.h with base := m.index, baseTerm := m.at', members := m.members } } lv wv dv ov rows := h3'
 clear h3'
 have w3 := m3.wf w2
 obtain ⟨g3, no3⟩ := box_mv w2 g2 no2 m3
 obtain ⟨l3, n63⟩ := l2.mv n62 m3
 obtain ⟨S4, q4, h4', m4, _⟩ := h3.w_snap w3 snap
 have h4 : CoreAt S4 a { c with h := { c.h with base := m.index, baseTerm := m.at', members := m.members, snap := snap } } lv wv dv ov rows := h4'
 clear h4'
 have w4 := m4.wf w3
 obtain ⟨g4, no4⟩ := box_mv w3 g3 no3 m4
 obtain ⟨l4, n64⟩ := l3.mv n63 m4
 obtain ⟨S5, q5, h5', m5, _⟩ := h4.w_logN w4 hB wB rfl l4 hb6
 have h5 : CoreAt S5 a { c with h := { c.h with base := m.index, baseTerm := m.at', members := m.members, snap := snap, log := l6 } } lv6 wv dv ov rows := h5'
 clear h5'
 have w5 := m5.wf w4
 have hbB : b ≠ a := fun e => hno (.inl e)
 have g5 : S5.heap.get b = some (.row 0 13 [cellsL m ev]) := by
  have e := q5
  rw [var_set (x := lv6) (j := 7) (m := 1) h4.cell (by rw [l4.cells.1]; rfl) (by rw [l4.cells.1]; simp [allOne, l4.cells.2]) (by rw [cells_len _ _ _ _ h4.peers]; omega)] at e
  cases e
  show (S4.heap.put a _).get b = _
  rw [Tr.get_put_neB _ _ _ _ trivial hbB]; exact g4
 obtain ⟨S6, q6, h6', m6, _⟩ := h5.w_sure w5 m.index
 have h6 : CoreAt S6 a { c with h := { c.h with base := m.index, baseTerm := m.at', members := m.members, snap := snap, log := l6 }, sure := m.index } lv6 wv dv ov rows := h6'
 clear h6'
 have w6 := m6.wf w5
 obtain ⟨S7, q7, h7', m7, _⟩ := h6.w_way w6 (Ext.refl S6) (wv' := .nilp) (dv' := .nils) (way' := none) ⟨rfl, rfl⟩ ⟨rfl, rfl⟩ (fun y hy => by rcases hy with hy | hy <;> cases hy)
 have h7 : CoreAt S7 a { c with h := { c.h with base := m.index, baseTerm := m.at', members := m.members, snap := snap, log := l6 }, sure := m.index, way := none } lv6 .nilp .nils ov rows := h7'
 clear h7'
 have b0 := x0.next
 have b1 := Nat.le_trans b0 m1.next
 have b2 := Nat.le_trans b1 m2.next
 have b3 := Nat.le_trans b2 m3.next
 have b4 := Nat.le_trans b3 m4.next
 have b5 := Nat.le_trans b4 m5.next
 have b6 := Nat.le_trans b5 m6.next
 have mv : Mv (own a lv wv dv ov) B (own a lv6 .nilp .nils ov) S7 := MvB.mv wB (((((((MvB.of (Mv.of x0) (Nat.le_refl _)).trans (MvB.of m1 b0)).trans (MvB.of m2 b1)).trans (MvB.of m3 b2)).trans (MvB.of m4 b3)).trans m5).trans ((MvB.of m6 b5).trans (MvB.of m7 b6)))
 simp only [m91_j0, fa37_4, fa37_5, fa37_7, nilD_ptr, fa88_1, fa88_4, fa88_9, fa24_2, fa24_3, fa24_4, fa24_5, fa24_6, adv_ptr, Nat.reduceAdd, dR_ok, ld3, loadW_bump, l_index hb, l_at hb, l_members hb, st3, st9, st22, st86, q1, l_members g1, l_at g1, beqV_int, dIf_true, q2, l_members g2, q3, q4, q5, l_index g5, q6, q7]
 exact Ok.ret ⟨rfl, _, ⟨_, _, _, _, _, h7, rfl⟩, mv⟩
theorem g91 (m : Letter) (ev : V) (snap : List UInt8) (w : WF S) (h : CoreIn S a c O) (ok : Hok c.h) (hbi : c.h.base ≤ m.index) (he : Sl S 3 ev (m.entries.map encE)) : Meth 91 [.ptr a 0 0 0, .agg (cellsL m ev), .str snap] a (c.taken m snap) S O (.tup []) := by
 have ho := cellsL_one m he.one
 have hln : (cellsL m ev).length = 13 := rfl
 have hr := last_range ok
 have hb0 := ok.b0
 have hll := ok.ll
 obtain ⟨S1, hn1, x1, hg1, hnx1⟩ := nb w 13 (cellsL m ev)
 have w1 := x1.wf w
 have hno : ¬ O S.next := fun hO => absurd (core_lt w h _ hO) (Nat.lt_irrefl _)
 have xb : Ext S1 (⟨S1.next + 14, S1.heap⟩ : St) := (Ext.refl S1).bump 14
 have x1b := x1.trans xb
 have hT : c.taken m snap = { c with h := { c.h with base := m.index, baseTerm := m.at', members := m.members, snap := snap, log := if m.index ≤ c.last ∧ c.term m.index = m.at' then c.h.log.drop (m.index - c.h.base).toNat else [] }, sure := m.index, way := none } := rfl
 have hin := h
 obtain ⟨lv, wv, dv, ov, rows, h, rfl⟩ := h
 refine e91 ?_
 simp only [m91, agg_cells, ho, hln, dIf_true, hn1, dR_ok, fa37_4, adv_ptr, ld3, loadW_bump, l_index hg1]
 refine (g46 (hin.ext w x1b) ok).call fun S2 x2 => ?_
 have x02 := x1b.trans x2
 have w2 := x02.wf w
 have g2 := x2.old _ _ (xb.old _ _ hg1)
 have j1 : ∀ (S3 : St), Ext S2 S3 → ∀ q : Bool, q = decide (m.index ≤ c.last ∧ c.term m.index = m.at') → Ok (fun k K => m91_j1 (callD Try.prog dPl dLv k) k K (.ptr a 0 0 0) (.str snap) (.ptr S.next 0 0 0) (.bool q) S3) (fun u S' => u = .tup [] ∧ ∃ O', CoreIn S' a (c.taken m snap) O' ∧ Mv (own a lv wv dv ov) S O' S') := fun S3 x3 q hq => by
  have w3 := x3.wf w2
  have x03 := x02.trans x3
  have g3 := x3.old _ _ g2
  have h3 := h.ext w x03
  rw [hT]
  by_cases hc : m.index ≤ c.last ∧ c.term m.index = m.at'
  ·rw [hq, decide_eq_true hc, if_pos hc]
   have hw : wr .i64 (m.index - c.h.base) = m.index - c.h.base := wr64 (by omega) (by omega)
   have hlast : c.last = c.h.base + c.h.log.length := rfl
   obtain ⟨u, r1, s1, _⟩ := sl_cut es22 h3.log.sl (bounds_lo .i64 (l := m.index - c.h.base) (by omega) (by rw [List.length_map]; omega)) (by rw [List.length_map]; omega) (Nat.le_refl _)
   rw [List.take_length, ← List.map_drop] at s1
   have xc : Ext S3 (⟨S3.next + 17, S3.heap⟩ : St) := (Ext.refl S3).bump 17
   have hfree : (⟨S3.next + 17, S3.heap⟩ : St).heap.get (S3.next + 15) = none := free_at w3 17 (S3.next + 15) (by omega)
   have hdl : (c.h.log.drop (m.index - c.h.base).toNat).length ≤ 200 := by rw [List.length_drop]; omega
   obtain ⟨lv6, S4, r2, x4, o4, _⟩ := (s1.ext xc).copyAt2 (b := 32) xc (k := S3.next + 15) (by omega) (by show S3.next + 15 < S3.next + 17; omega) hfree (by rw [List.length_map]; omega) (by rw [List.length_map]; unfold lim; omega)
   have x34 := xc.trans x4
   simp only [m91_j1, pickD_true, nilD_ptr, fa88_1, fa24_6, fa24_2, fa37_4, adv_ptr, Nat.reduceAdd, dR_ok, ld22, ld3, loadW_bump, h3.r_log, h3.r_base, l_index g3, bin_sub, hw, r1, app22, r2]
   exact j91 m ev snap w h (x03.trans x34) (x34.old _ _ g3) hno (o4.weaken (Nat.zero_le _)) (fun y hy => Nat.le_trans x03.next (Own_lt o4 hy).1)
  ·rw [hq, decide_eq_false hc, if_neg hc]
   simp only [m91_j1, pickD_false]
   exact j91 m ev snap w h x03 g3 hno (Own.nil _ _ _) (fun y hy => by cases hy)
 simp only [l_index g2, l_at g2, fa37_5, fa37_4, adv_ptr, ld3, dR_ok, beqV_int, dIf_true, bin_leq]
 refine Ok.pickP (fun e => ?_) (fun e => j1 S2 (Ext.refl _) false (decide_eq_false (fun q => e q.1)).symm)
 refine (g62 (hin.ext w x02) ok (n := m.index) hbi e).call fun S3 x3 => ?_
 have g3 := x3.old _ _ g2
 simp only [l_at g3, dR_ok, beqV_int, dIf_true, guard_int, bin_eql]
 refine j1 S3 x3 _ ?_
 by_cases hc : c.term m.index = m.at'
 ·rw [decide_eq_true hc, decide_eq_true (show m.index ≤ c.last ∧ c.term m.index = m.at' from ⟨e, hc⟩)]
 ·rw [decide_eq_false hc, decide_eq_false (fun q => hc q.2)]
end
end
section
structure LetIn (S : St) (O : Nat → Prop) (b : Nat) (m : Letter) (ev : V) : Prop where
 box : S.heap.get b = some (.row 0 13 [cellsL m ev])
 no : ¬ O b
 ents : Sl S 3 ev (m.entries.map encE)
 off : ∀ y, blkOf ev = some y → ¬ O y
theorem LetIn.mv {S S' : St} {O O' : Nat → Prop} {b : Nat} {m : Letter} {ev : V} (w : WF S) (h : LetIn S O b m ev) (k : Mv O S O' S') : LetIn S' O' b m ev := by
 obtain ⟨b1, b2⟩ := box_mv w h.box h.no k
 obtain ⟨s1, s2⟩ := off_mv w h.ents h.off k
 exact ⟨b1, b2, s1, s2⟩
theorem LetIn.ext {S S' : St} {O : Nat → Prop} {b : Nat} {m : Letter} {ev : V} (h : LetIn S O b m ev) (x : Ext S S') : LetIn S' O b m ev := ⟨x.old _ _ h.box, h.no, h.ents.ext x, h.off⟩
theorem by9 : isBy Try.prog 74 = true := by kernel_rfl
theorem ptr_eq (a b c d : Nat) : binV Try.prog .eql 86 (.ptr a b c d) .nilp = .ok (.bool false) := by
 have h : (fun a b c d => binV Try.prog .eql 86 (.ptr a b c d) .nilp) = fun _ _ _ _ => .ok (.bool false) := by kernel_rfl
 exact congrFun (congrFun (congrFun (congrFun h a) b) c) d
theorem nil_eq : binV Try.prog .eql 86 .nilp .nilp = .ok (.bool true) := by kernel_rfl
theorem ptr_gd (a b c d : Nat) : guardP Try.prog 86 (.ptr a b c d) .nilp = true := by
 have h : (fun a b c d => guardP Try.prog 86 (.ptr a b c d) .nilp) = fun _ _ _ _ => true := by kernel_rfl
 exact congrFun (congrFun (congrFun (congrFun h a) b) c) d
theorem nil_gd : guardP Try.prog 86 .nilp .nilp = true := by kernel_rfl
theorem build_way (x y z : Int) : buildV Try.prog 102 [(0, .int .i64 x), (1, .int .i64 y), (2, .int .i64 z)] = .ok (.agg [.int .i64 x, .int .i64 y, .int .i64 z, .nils]) := by rw [bd102]; rfl
section
variable {S : St} {a b : Nat} {c : Core} {lv wv dv ov : V} {rows : List (List V)}
theorem way_ld {i : Inst} (h : CoreAt S a c lv wv dv ov rows) (hi : c.way = some i) : ∃ p, wv = .ptr p 0 0 0 ∧ loadW none (.ptr p 0 0 0) S = .ok (.int .i64 i.index) ∧ loadW none (.ptr p 0 0 1) S = .ok (.int .i64 i.at') ∧ loadW none (.ptr p 0 0 2) S = .ok (.int .i64 i.size) ∧ loadW none (.ptr p 0 0 3) S = .ok dv ∧ Mn S 1 dv (i.data.map encB) := by
 have hw := h.way
 rw [hi] at hw
 obtain ⟨p, e, g, m⟩ := hw
 refine ⟨p, e, ?_, ?_, ?_, ?_, m⟩ <;> (rw [load_one _ _ _ _ _ (row_get g)]; rfl)
theorem j58c (m : Letter) (ev : V) {i : Inst} (w : WF S) (h : CoreAt S a c lv wv dv ov rows) (hi : c.way = some i) (hsz : i.data.length ≤ 1000000) (L : LetIn S (own a lv wv dv ov) b m ev) (ok : Hok c.h) (hbi : c.h.base ≤ m.index) (hl : c.out.length ≤ 999990) :
  Ok (fun k K => m58_j2 (callD Try.prog dPl dLv k) k K (.ptr a 0 0 0) (.ptr b 0 0 0) wv S) (fun u S' => u = .tup [] ∧ ∃ O', CoreIn S' a (if (i.data.length : Int) < i.size then c.post { Letter.zero with kind := 6, to := m.from', index := m.index, off := i.data.length } else (c.taken m i.data).post { Letter.zero with kind := 4, to := m.from', yes := true, index := m.index }) O' ∧ Mv (own a lv wv dv ov) S O' S') := by
 obtain ⟨p, rfl, v0, v1, v2, v3, md⟩ := way_ld h hi
 have hin : CoreIn S a c (own a lv (.ptr p 0 0 0) dv ov) := ⟨_, _, _, _, _, h, rfl⟩
 have hcv := fun (fr : Option Nat) (n : Nat) => conv_text (P := Try.prog) (S := (⟨n, S.heap⟩ : St)) by9 st9T (v := dv) (d := i.data) (Sl.keep md.sl fun y c _ hc => hc) fr
 simp only [m58_j2, nilD_ptr, fa102_3, fa102_2, fa37_1, fa37_4, adv_ptr, Nat.reduceAdd, dR_ok, ld74, ld3, ld37, loadW_bump, v2, v3, len74, md.sl.lenI, bin_lss, l_from L.box, l_index L.box, l_all L.box, bd37, bd_toio, hcv]
 refine Ok.pickP (fun e => ?_) (fun e => ?_)
 ·rw [if_pos e]
  have xb : Ext S (⟨S.next + 22, S.heap⟩ : St) := (Ext.refl S).bump 22
  exact Meth.call (g86 _ .nils (xb.wf w) (hin.ext w xb) (Apart.nil _ _ rfl) (le_add10 hl)) (xb.wf w) fun S1 O1 w1 in1 m1 => Ok.ret ⟨rfl, O1, in1, (Mv.of xb).trans w m1⟩
 ·rw [if_neg e]
  have xb : Ext S (⟨S.next + 18, S.heap⟩ : St) := (Ext.refl S).bump 18
  have Lb := L.ext xb
  refine Meth.call (g91 m ev i.data (xb.wf w) (hin.ext w xb) ok hbi Lb.ents) (xb.wf w) fun S1 O1 w1 in1 m1 => ?_
  have L1 := Lb.mv (xb.wf w) m1
  simp only [l_from L1.box, l_index L1.box, dR_ok, bd_toyi]
  exact Meth.call (g86 _ .nils w1 in1 (Apart.nil _ _ rfl) (le_add10 hl)) w1 fun S2 O2 w2 in2 m2 => Ok.ret ⟨rfl, O2, in2, ((Mv.of xb).trans w m1).trans w m2⟩
theorem j58b (m : Letter) (ev : V) (w : WF S) (h : CoreAt S a c lv wv dv ov rows) (hw1 : ∀ i, c.way = some i → i.data.length ≤ 100000) (hd1 : 1 ≤ m.data.length) (hd2 : m.data.length ≤ 600) (L : LetIn S (own a lv wv dv ov) b m ev) (ok : Hok c.h) (hbi : c.h.base ≤ m.index) (hl : c.out.length ≤ 999990) (q : Bool) (hq : q = match c.way with
      | none => true
      | some i => decide (i.index ≠ m.index ∨ i.at' ≠ m.at' ∨ i.size ≠ m.size)) :
    Ok (fun k K => m58_j1 (callD Try.prog dPl dLv k) k K (.ptr a 0 0 0) (.ptr b 0 0 0) wv (.bool q) S) (fun u S' => u = .tup [] ∧ ∃ O', CoreIn S' a (match c.way with
      | none => c.post { Letter.zero with kind := 6, to := m.from', index := m.index }
      | some w => if w.index ≠ m.index ∨ w.at' ≠ m.at' ∨ w.size ≠ m.size then c.post { Letter.zero with kind := 6, to := m.from', index := m.index } else
        let w1 := if m.off = w.data.length then { w with data := w.data ++ m.data } else w
        let c3 := { c with way := some w1 }
        if (w1.data.length : Int) < w1.size then c3.post { Letter.zero with kind := 6, to := m.from', index := m.index, off := w1.data.length } else
          (c3.taken m w1.data).post { Letter.zero with kind := 4, to := m.from', yes := true, index := m.index }) O' ∧ Mv (own a lv wv dv ov) S O' S') := by
  have hin : CoreIn S a c (own a lv wv dv ov) := ⟨_, _, _, _, _, h, rfl⟩
  have no : q = true → Ok (fun k K => m58_j1 (callD Try.prog dPl dLv k) k K (.ptr a 0 0 0) (.ptr b 0 0 0) wv (.bool q) S) (fun u S' => u = .tup [] ∧ ∃ O', CoreIn S' a (c.post { Letter.zero with kind := 6, to := m.from', index := m.index }) O' ∧ Mv (own a lv wv dv ov) S O' S') := fun e => by
    rw [e]
    simp only [m58_j1, pickD_true, fa37_1, fa37_4, adv_ptr, Nat.reduceAdd, dR_ok, ld3, l_from L.box, l_index L.box, bd37, bd_toi]
    exact Meth.call (g86 _ .nils w hin (Apart.nil _ _ rfl) (le_add10 hl)) w fun S1 O1 w1 in1 m1 => Ok.ret ⟨rfl, O1, in1, m1⟩
  cases hi : c.way with
  | none => rw [hi] at hq; exact no hq
  | some i =>
    rw [hi] at hq
    simp only at hq ⊢
    by_cases hc : i.index ≠ m.index ∨ i.at' ≠ m.at' ∨ i.size ≠ m.size
    · rw [if_pos hc]; exact no (by rw [hq, decide_eq_true hc])
    · rw [if_neg hc, hq, decide_eq_false hc]
      have hsz := hw1 i hi
      have hw := way_ld h hi
      obtain ⟨p, rfl, v0, v1, v2, v3, md⟩ := hw
      simp only [m58_j1, pickD_false, nilD_ptr, fa37_8, fa37_11, fa102_3, adv_ptr, Nat.reduceAdd, dR_ok, ld3, ld74, ld9, loadW_bump, l_off L.box, l_data L.box, v3, len74, md.sl.lenI, guard_int, dIf_true, bin_eql]
      refine Ok.pickP (fun e => ?_) (fun e => ?_)
      · rw [if_pos e]
        have xb : Ext S (⟨S.next + 19, S.heap⟩ : St) := (Ext.refl S).bump 19
        have wb := xb.wf w
        have hfree : (⟨S.next + 19, S.heap⟩ : St).heap.get (S.next + 15) = none := free_at w 19 (S.next + 15) (by omega)
        have mdb : Mn (⟨S.next + 19, S.heap⟩ : St) 1 dv (i.data.map encB) := md.keepW xb.next (KeepW.ext xb)
        obtain ⟨dv', S1, r1, w1, n1, o1, b1, k1⟩ := Mn.pushAtL (b := 1) mdb wb (u := .str m.data) (cs := m.data.map encB) rfl (fun c hc => by obtain ⟨x, _, rfl⟩ := List.mem_map.1 hc; exact ⟨rfl, rfl⟩) (fun q => by
          have h9 := congrArg List.length q
          rw [List.length_map] at h9
          rw [h9] at hd1
          exact absurd hd1 (by decide)) (k := S.next + 15) (by show S.next + 15 < S.next + 19; omega) hfree (by rw [List.length_map, List.length_map]; omega) (by rw [List.length_map, List.length_map]; unfold lim; omega)
        rw [← List.map_append] at o1
        obtain ⟨p', S2, e2, r2, h2, m2, n2⟩ := h.w_data w hi w1 (by rw [n1]; exact xb.next) (fun y bb hy hb => by
          rw [k1 y (fun e => by subst e; have := w _ _ hy; omega) hb]; exact hy) o1 (fun y hy => by
          rcases b1 with b1 | b1
          · rw [b1] at hy; cases hy; exact .inr (Nat.le_add_right _ _)
          · rw [b1] at hy; exact .inl hy)
        cases e2
        have w2 := m2.wf w
        simp only [Nat.add_assoc, Nat.reduceAdd, app74, r1, dR_ok, st74, r2]
        exact (j58c m ev (i := { i with data := i.data ++ m.data }) w2 h2 rfl (by show (i.data ++ m.data).length ≤ 1000000; rw [List.length_append]; omega) (L.mv w m2) ok hbi hl).mono fun u S3 ⟨e3, O3, i3, m3⟩ => ⟨e3, O3, i3, m2.trans w m3⟩
      · rw [if_neg e]
        have xb : Ext S (⟨S.next + 8, S.heap⟩ : St) := (Ext.refl S).bump 8
        have hcc : ({ c with way := some i } : Core) = c := by rw [← hi]
        rw [hcc]
        exact (j58c m ev (xb.wf w) (h.ext w xb) hi (Nat.le_trans hsz (by decide)) (L.ext xb) ok hbi hl).mono fun u S3 ⟨e3, O3, i3, m3⟩ => ⟨e3, O3, i3, (Mv.of xb).trans w m3⟩
end
end
section
def pieceM (c : Core) (m : Letter) : Core := match c.way with
      | none => c.post { Letter.zero with kind := 6, to := m.from', index := m.index }
      | some w => if w.index ≠ m.index ∨ w.at' ≠ m.at' ∨ w.size ≠ m.size then c.post { Letter.zero with kind := 6, to := m.from', index := m.index } else
        let w1 := if m.off = w.data.length then { w with data := w.data ++ m.data } else w
        let c3 := { c with way := some w1 }
        if (w1.data.length : Int) < w1.size then c3.post { Letter.zero with kind := 6, to := m.from', index := m.index, off := w1.data.length } else
          (c3.taken m w1.data).post { Letter.zero with kind := 4, to := m.from', yes := true, index := m.index }
section
variable {S : St} {a b : Nat} {c : Core} {O : Nat → Prop}
theorem j58a (m : Letter) (ev : V) (w : WF S) (h : CoreIn S a c O) (hw1 : ∀ i, c.way = some i → i.data.length ≤ 100000) (hd1 : 1 ≤ m.data.length) (hd2 : m.data.length ≤ 600) (L : LetIn S O b m ev) (ok : Hok c.h) (hbi : c.h.base ≤ m.index) (hl : c.out.length ≤ 999990) :
  Ok (fun k K => m58_j0 (callD Try.prog dPl dLv k) k K (.ptr a 0 0 0) (.ptr b 0 0 0) S) (fun u S' => u = .tup [] ∧ ∃ O', CoreIn S' a (pieceM c m) O' ∧ Mv O S O' S') := by
 obtain ⟨lv, wv, dv, ov, rows, h, rfl⟩ := h
 have xb : Ext S (⟨S.next + 29, S.heap⟩ : St) := (Ext.refl S).bump 29
 have wb := xb.wf w
 have hb := h.ext w xb
 have Lb := L.ext xb
 have go : ∀ q : Bool, (q = match c.way with
   | none => true
   | some i => decide (i.index ≠ m.index ∨ i.at' ≠ m.at' ∨ i.size ≠ m.size)) → Ok (fun k K => m58_j1 (callD Try.prog dPl dLv k) k K (.ptr a 0 0 0) (.ptr b 0 0 0) wv (.bool q) (⟨S.next + 29, S.heap⟩ : St)) (fun u S' => u = .tup [] ∧ ∃ O', CoreIn S' a (pieceM c m) O' ∧ Mv (own a lv wv dv ov) S O' S') := fun q hq =>
  (j58b m ev wb hb hw1 hd1 hd2 Lb ok hbi hl q hq).mono fun u S1 ⟨e, O1, i1, m1⟩ => ⟨e, O1, i1, (Mv.of xb).trans w m1⟩
 cases hi : c.way with
 | none =>
  rw [hi] at go
  have hw := h.way
  rw [hi] at hw
  obtain ⟨rfl, rfl⟩ := hw
  simp only [m58_j0, nilD_ptr, fa88_9, adv_ptr, Nat.reduceAdd, dR_ok, ld86, h.r_way, nil_gd, dIf_true, nil_eq, pickD_true]
  exact go true rfl
 | some i =>
  rw [hi] at go
  obtain ⟨p, rfl, v0, v1, v2, v3, md⟩ := way_ld h hi
  simp only [m58_j0, nilD_ptr, fa88_9, fa102_0, fa102_1, fa102_2, fa37_4, fa37_5, fa37_9, adv_ptr, Nat.reduceAdd, dR_ok, ld86, ld3, loadW_bump, h.r_way, ptr_gd, dIf_true, ptr_eq, pickD_false, v0, v1, v2, l_index L.box, l_at L.box, l_size L.box, guard_int, bin_neq]
  refine Ok.pickN (fun e => go true (decide_eq_true (Or.inl e)).symm) (fun e => ?_)
  refine Ok.pickN (fun e2 => go true (decide_eq_true (Or.inr (Or.inl e2))).symm) (fun e2 => ?_)
  refine go _ ?_
  show _ = decide (i.index ≠ m.index ∨ i.at' ≠ m.at' ∨ i.size ≠ m.size)
  by_cases e3 : i.size = m.size
  ·rw [decide_eq_true e3, decide_eq_false (fun q => by
    rcases q with q | q | q
    ·exact q e
    ·exact q e2
    ·exact q e3)]; rfl
  ·rw [decide_eq_false e3]; exact (decide_eq_true (Or.inr (Or.inr e3))).symm
theorem g58 (m : Letter) (ev : V) (w : WF S) (h : CoreIn S a c O) (I : Inv c) (ok : Lok m) (hk : m.kind = 5) (he : Apart S O m ev) (hl : c.out.length ≤ 999990) : Meth 58 [.ptr a 0 0 0, .agg (cellsL m ev)] a (c.installed m) S O (.tup []) := by
 have ho := cellsL_one m he.1.one
 have hln : (cellsL m ev).length = 13 := rfl
 have k5 := ok.k5 hk
 obtain ⟨S1, hn1, x1, hg1, hnx1⟩ := nb w 13 (cellsL m ev)
 have w1 := x1.wf w
 have in1 := h.ext w x1
 have hin1 := in1
 have hno : ¬ O S.next := fun hO => absurd (core_lt w h _ hO) (Nat.lt_irrefl _)
 have L1 : LetIn S1 O S.next m ev := ⟨hg1, hno, he.1.ext x1, he.2⟩
 obtain ⟨lv, wv, dv, ov, rows, h1, hO⟩ := in1
 refine e58 ?_
 simp only [m58, agg_cells, ho, hln, dIf_true, hn1, dR_ok, nilD_ptr, fa88_2, fa37_1, adv_ptr, Nat.reduceAdd, ld3, h1.r_role, l_from hg1, guard_int, bin_eql]
 have hI : c.installed m = if c.role = 3 then c else
  let c1 := c.hear m.from'
  if m.index ≤ c1.sure then c1.post { Letter.zero with kind := 4, to := m.from', yes := true, index := m.index } else
   pieceM (if m.off = 0 then { c1 with way := some ⟨m.index, m.at', m.size, []⟩ } else c1) m := rfl
 rw [hI]
 refine Ok.pickP (fun e => Ok.ret ⟨rfl, O, by rw [if_pos e]; exact hin1, Mv.of x1⟩) (fun e => ?_)
 rw [if_neg e]
 refine Meth.call (g89 m.from' w1 hin1) w1 fun S3 O3 w3 in3 m3 => ?_
 have L3 := L1.mv w1 m3
 have mv3 := (Mv.of (O := O) x1).trans w m3
 have I3 := (I.hear ok.f0 ok.f1).1
 have ew3 : (c.hear m.from').way = c.way := rfl
 generalize hc3 : c.hear m.from' = c3 at in3 I3 ew3
 have hl3 : c3.out.length ≤ 999990 := by rw [← hc3]; exact hl
 have hin3 := in3
 obtain ⟨lv, wv, dv, ov, rows, h3, hO3⟩ := in3
 have xb : Ext S3 (⟨S3.next + 7, S3.heap⟩ : St) := (Ext.refl S3).bump 7
 have wb := xb.wf w3
 have Lb := L3.ext xb
 simp only [fa37_1, fa37_4, fa37_5, fa37_8, fa37_9, nilD_ptr, fa88_4, adv_ptr, Nat.reduceAdd, dR_ok, ld3, loadW_bump, l_index L3.box, l_from L3.box, l_off L3.box, l_at L3.box, l_size L3.box, h3.r_sure, bin_leq, guard_int, dIf_true, bin_eql, bd37, bd_toyi, build_way]
 refine Ok.pickP (fun e2 => ?_) (fun e2 => ?_)
 ·simp only [e2, if_true]
  exact Meth.call (g86 _ .nils wb (hin3.ext w3 xb) (Apart.nil _ _ rfl) (le_add10 hl3)) wb fun S4 O4 w4 in4 m4 => Ok.ret ⟨rfl, O4, in4, (mv3.trans w (Mv.of xb)).trans w m4⟩
 ·have hbi : c3.h.base ≤ m.index := Int.le_of_lt (Int.lt_of_le_of_lt I3.s0 (Int.not_le.1 e2))
  simp only [e2, if_false]
  refine Ok.pickP (fun e3 => ?_) (fun e3 => ?_)
  ·have ho4 : allOne (V.agg [.int .i64 m.index, .int .i64 m.at', .int .i64 m.size, .nils]).cells = true := rfl
   obtain ⟨S5, hn5, x5, hg5, hnx5⟩ := nb wb 4 [.int .i64 m.index, .int .i64 m.at', .int .i64 m.size, .nils]
   have x35 := xb.trans x5
   obtain ⟨S6, r6, h6, m6, n6⟩ := h3.w_way w3 x35 (wv' := .ptr (S3.next + 7) 0 0 0) (dv' := .nils) (way' := some ⟨m.index, m.at', m.size, []⟩) ⟨S3.next + 7, rfl, hg5, Own.nil _ _ _⟩ ⟨rfl, rfl⟩ (fun y hy => by
    rcases hy with hy | hy
    ·cases hy; exact Nat.le_add_right _ _
    ·cases hy)
   have w6 := m6.wf w3
   have hn5' : newBlk none (⟨S3.next + 7, S3.heap⟩ : St) (.row 0 (V.agg [.int .i64 m.index, .int .i64 m.at', .int .i64 m.size, .nils]).cells.length [(V.agg [.int .i64 m.index, .int .i64 m.at', .int .i64 m.size, .nils]).cells]) = .ok (S3.next + 7, S5) := hn5
   simp only [ho4, dIf_true, hn5', dR_ok, nilD_ptr, fa88_9, adv_ptr, Nat.reduceAdd, st86, r6, e3, if_true]
   rw [← hO3] at m6
   exact (j58a m ev w6 ⟨_, _, _, _, _, h6, rfl⟩ (fun i hi => by cases hi; exact Nat.zero_le _) k5.2.2.2.2.2.2.2.2.1 k5.2.2.2.2.2.2.2.2.2.1 (L3.mv w3 m6) I3.h hbi hl3).mono fun u S7 ⟨e7, O7, i7, m7⟩ => ⟨e7, O7, i7, (mv3.trans w m6).trans w m7⟩
  ·simp only [e3, if_false]
   exact (j58a m ev wb (hin3.ext w3 xb) (fun i hi => by
    have h9 := I3.w i hi
    exact Int.ofNat_le.1 (Int.le_trans h9.2.2 (Int.le_trans h9.2.1 (by decide)))) k5.2.2.2.2.2.2.2.2.1 k5.2.2.2.2.2.2.2.2.2.1 Lb I3.h hbi hl3).mono fun u S7 ⟨e7, O7, i7, m7⟩ => ⟨e7, O7, i7, (mv3.trans w (Mv.of xb)).trans w m7⟩
end
end
section
section
variable {S : St} {a b : Nat} {c : Core} {O : Nat → Prop}
theorem Inv.newTerm {c : Core} (h : Raft.Inv c) {t : Int} (h1 : c.h.term < t) (h2 : t ≤ 1099511627776) : Raft.Inv { c with h := { c.h with term := t, vote := -1 }, role := 1, leads := -1 } := by
 have k := h.h
 exact ⟨h.i0, h.i1, ⟨Int.le_trans k.t0 (Int.le_of_lt h1), h2, Int.le_refl _, by show (-1 : Int) < 7; decide, k.m0, k.m1, k.b0, k.b1, k.bt0, Int.le_trans k.bt1 (Int.le_of_lt h1), k.btz, k.ll, k.li, fitsL_mono (Int.le_of_lt h1) k.fl, k.sz, k.sl⟩, .inl rfl, Int.le_refl _, by show (-1 : Int) ≤ 6; decide, h.s0, h.s1, h.d0, h.d1, h.f0, h.f1, h.v0, h.v1, h.pl, fun e => absurd e (by show ¬ (1 : Int) = 3; decide), fun e => absurd rfl e, h.w⟩
def takeM (c : Core) (m : Letter) : Core := if m.term < c.h.term then c.late m else
      if m.kind = 1 then c.asked m else if m.kind = 2 then c.voted m else if m.kind = 3 then c.appended m else if m.kind = 4 then c.acked m else if m.kind = 5 then c.installed m else if m.kind = 6 then c.more m else c
theorem j19 (m : Letter) (ev : V) (w : WF S) (h : CoreIn S a c O) (I : Inv c) (ok : Lok m) (L : LetIn S O b m ev) (hl : c.out.length ≤ 999990) :
  Ok (fun k K => m19_j0 (callD Try.prog dPl dLv k) k K (.ptr a 0 0 0) (.ptr b 0 0 0) S) (fun u S' => u = .tup [] ∧ ∃ O', CoreIn S' a (takeM c m) O' ∧ Mv O S O' S') := by
 have xb : Ext S (⟨S.next + 8, S.heap⟩ : St) := (Ext.refl S).bump 8
 have wb := xb.wf w
 have inb := h.ext w xb
 have Lb := L.ext xb
 obtain ⟨lv, wv, dv, ov, rows, hc, hO⟩ := h
 have ap : Apart (⟨S.next + 8, S.heap⟩ : St) O m ev := ⟨Lb.ents, Lb.off⟩
 have fin : ∀ {f : FuncId} {c' : Core}, Meth f [.ptr a 0 0 0, .agg (cellsL m ev)] a c' (⟨S.next + 8, S.heap⟩ : St) O (.tup []) → takeM c m = c' → Ok (fun k K => callD Try.prog dPl dLv k f [.ptr a 0 0 0, .agg (cellsL m ev)] (⟨S.next + 8, S.heap⟩ : St) fun t S' => K (.tup []) S') (fun u S' => u = .tup [] ∧ ∃ O', CoreIn S' a (takeM c m) O' ∧ Mv O S O' S') := fun hm e =>
  Meth.call hm wb fun S1 O1 w1 in1 m1 => Ok.ret ⟨rfl, O1, by rw [e]; exact in1, (Mv.of xb).trans w m1⟩
 simp only [m19_j0, fa37_3, fa37_0, nilD_ptr, fa88_1, fa24_0, adv_ptr, Nat.reduceAdd, dR_ok, ld3, ld37, loadW_bump, l_term L.box, l_kind L.box, l_all L.box, hc.r_term, bin_lss, guard_int, dIf_true, bin_eql]
 refine Ok.pickP (fun e => fin (g53 m ev wb inb I.h Lb.ents hl) (by unfold takeM; rw [if_pos e])) (fun e => ?_)
 refine Ok.pickP (fun e1 => fin (g54 m ev wb inb I.h Lb.ents hl) (by unfold takeM; rw [if_neg e, if_pos e1])) (fun e1 => ?_)
 refine Ok.pickP (fun e2 => fin (g55 m ev wb inb I ok Lb.ents hl) (by unfold takeM; rw [if_neg e, if_neg e1, if_pos e2])) (fun e2 => ?_)
 refine Ok.pickP (fun e3 => fin (g56 m ev wb inb I ok e3 ap hl) (by unfold takeM; rw [if_neg e, if_neg e1, if_neg e2, if_pos e3])) (fun e3 => ?_)
 refine Ok.pickP (fun e4 => fin (g57 m ev wb inb I ok Lb.ents hl) (by unfold takeM; rw [if_neg e, if_neg e1, if_neg e2, if_neg e3, if_pos e4])) (fun e4 => ?_)
 refine Ok.pickP (fun e5 => fin (g58 m ev wb inb I ok e5 ap hl) (by unfold takeM; rw [if_neg e, if_neg e1, if_neg e2, if_neg e3, if_neg e4, if_pos e5])) (fun e5 => ?_)
 refine Ok.pickP (fun e6 => fin (g59 m ev wb inb I ok e6 Lb.ents hl) (by unfold takeM; rw [if_neg e, if_neg e1, if_neg e2, if_neg e3, if_neg e4, if_neg e5, if_pos e6])) (fun e6 => ?_)
 exact Ok.ret ⟨rfl, O, by unfold takeM; rw [if_neg e, if_neg e1, if_neg e2, if_neg e3, if_neg e4, if_neg e5, if_neg e6]; exact inb, Mv.of xb⟩
theorem g19 (m : Letter) (ev : V) (w : WF S) (h : CoreIn S a c O) (I : Inv c) (he : Apart S O m ev) (hl : c.out.length ≤ 999990) : Meth 19 [.ptr a 0 0 0, .agg (cellsL m ev)] a (c.take m) S O (.tup []) := by
 have ho := cellsL_one m he.1.one
 have hln : (cellsL m ev).length = 13 := rfl
 obtain ⟨S1, hn1, x1, hg1, hnx1⟩ := nb w 13 (cellsL m ev)
 have w1 := x1.wf w
 have in1 := h.ext w x1
 have hno : ¬ O S.next := fun hO => absurd (core_lt w h _ hO) (Nat.lt_irrefl _)
 have L1 : LetIn S1 O S.next m ev := ⟨hg1, hno, he.1.ext x1, he.2⟩
 have hT : c.take m = if c.passed m = true then c else takeM (if c.h.term < m.term then { c with h := { c.h with term := m.term, vote := -1 }, role := 1, leads := -1 } else c) m := rfl
 rw [hT]
 refine e19 ?_
 simp only [m19, agg_cells, ho, hln, dIf_true, hn1, dR_ok, ld37, l_all hg1]
 refine (g52 m ev w1 in1 I L1.ents).call fun S2 x2 => ?_
 have w2 := x2.wf w1
 have in2 := in1.ext w1 x2
 have x02 := x1.trans x2
 refine Ok.pick (fun e => Ok.ret ⟨rfl, O, by rw [if_pos e]; exact in2, Mv.of x02⟩) (fun e => ?_)
 have hp : ¬ c.passed m = true := fun q => by rw [q] at e; cases e
 rw [if_neg hp]
 have hr : rightL m = true := by
  cases hr : rightL m with
  | true => rfl
  | false => exact absurd (by unfold Core.passed; rw [if_pos (.inl hr)]) hp
 have ok := rightL_ok hr
 have xb : Ext S2 (⟨S2.next + 8, S2.heap⟩ : St) := (Ext.refl S2).bump 8
 have wb := xb.wf w2
 have L2 := L1.ext x2
 have hin2 := in2
 obtain ⟨lv, wv, dv, ov, rows, h2, hO⟩ := in2
 simp only [fa37_3, nilD_ptr, fa88_1, fa88_2, fa88_3, fa24_0, fa24_1, adv_ptr, Nat.reduceAdd, dR_ok, ld3, loadW_bump, l_term L2.box, h2.r_term, bin_gtr]
 refine Ok.pickP (fun e2 => ?_) (fun e2 => ?_)
 ·rw [if_pos e2]
  obtain ⟨S3, q3, h3, m3, _⟩ := (h2.ext w2 xb).w_term wb m.term
  have w3 := m3.wf wb
  obtain ⟨S4, q4, h4', m4, _⟩ := h3.w_vote w3 (-1)
  have h4 : CoreAt S4 a { c with h := { c.h with term := m.term, vote := -1 } } lv wv dv ov rows := h4'
  clear h4'
  have w4 := m4.wf w3
  obtain ⟨S5, q5, h5', m5, _⟩ := h4.w_role w4 1
  have h5 : CoreAt S5 a { c with h := { c.h with term := m.term, vote := -1 }, role := 1 } lv wv dv ov rows := h5'
  clear h5'
  have w5 := m5.wf w4
  obtain ⟨S6, q6, h6', m6, _⟩ := h5.w_leads w5 (-1)
  have h6 : CoreAt S6 a { c with h := { c.h with term := m.term, vote := -1 }, role := 1, leads := -1 } lv wv dv ov rows := h6'
  clear h6'
  have w6 := m6.wf w5
  rw [← hO] at m3 m4 m5 m6
  have mv6 := ((((Mv.of (O := O) (x02.trans xb)).trans w m3).trans w m4).trans w m5).trans w m6
  have L6 := ((((L2.ext xb).mv wb m3).mv w3 m4).mv w4 m5).mv w5 m6
  simp only [st3, q3, q4, q5, q6, dR_ok]
  exact (j19 m ev w6 ⟨_, _, _, _, _, h6, hO⟩ (Inv.newTerm I e2 ok.tm1) ok L6 hl).mono fun u S7 ⟨e7, O7, i7, m7⟩ => ⟨e7, O7, i7, mv6.trans w m7⟩
 ·rw [if_neg e2]
  exact (j19 m ev wb (hin2.ext w2 xb) I ok (L2.ext xb) hl).mono fun u S7 ⟨e7, O7, i7, m7⟩ => ⟨e7, O7, i7, (Mv.of (x02.trans xb)).trans w m7⟩
end
end
section
def encS (s : List UInt8) : List V := [.str s]
theorem fold_push {α β : Type} (f : α → β) : ∀ (l : List α) (acc : List β), l.foldl (fun a x => a ++ [f x]) acc = acc ++ l.map f
 | [], acc => by simp
 | x :: l, acc => by simp [fold_push f l]
def longStep (_ : Unit) (d : List UInt8) : Bool ⊕ Unit := if 1100 < d.length then .inl true else .inr ()
theorem longR : ∀ (l : List (List UInt8)), runL longStep (fun _ => false) l () = l.any (fun d => decide (1100 < d.length))
 | [] => rfl
 | d :: l => by
  simp only [runL, longStep, List.any_cons]
  by_cases h : 1100 < d.length
  ·rw [if_pos h, decide_eq_true h]; rfl
  ·rw [if_neg h, decide_eq_false h]; exact longR l
theorem build_entry2 (t : Int) (d : List UInt8) : buildW [.int .i64 0,.int .i64 0,.str []] [(0, 1), (1, 1), (2, 1)] [(0, .int .i64 t), (2, .str d)] = .ok (.agg (encE ⟨t, 0, d⟩)) := rfl
theorem small_next {i n : Nat} (h : i < n) (hn : n ≤ 1000000) : wr .i64 ((i : Int) + 1) = ((i + 1 : Nat) : Int) := by rw [wr64 (by omega) (by omega)]; omega
section
variable {S : St} {a b : Nat} {c : Core} {O : Nat → Prop}
theorem l20b (data : List (List UInt8)) (dv : V) (x4 x5 p8 : V) (w : WF S) (h : CoreIn S a c O) (hs : Sl S 1 dv (data.map encS)) (ho : ∀ y, blkOf dv = some y → ¬ O y) (hd : data.length ≤ 200) (hll : c.h.log.length ≤ 200) {Q : V → St → Prop}
  (hout : ∀ S' O', WF S' → CoreIn S' a { c with h := { c.h with log := c.h.log ++ data.map fun d => ⟨c.h.term, 0, d⟩ } } O' → Mv O S O' S' → Ok (fun k K => callD Try.prog dPl dLv k 60 [.ptr a 0 0 0] S' fun t S'' => K (.tup [p8, .bool true]) S'') Q) :
  Ok (fun k K => loopD k [.int .i64 0] S (m20_l1 (callD Try.prog dPl dLv k) k K (.ptr a 0 0 0) x4 x5 p8 dv (.int .i64 data.length))) Q := by
 refine Ok.loopL (F := fun k K => m20_l1 (callD Try.prog dPl dLv k) k K (.ptr a 0 0 0) x4 x5 p8 dv (.int .i64 data.length)) (ρ := List Entry) (α := List UInt8) (X := Unit) data (step := fun l d => .inr (l ++ [⟨c.h.term, 0, d⟩])) (fin := id) (s := c.h.log)
  (out := fun k K _ S' => callD Try.prog dPl dLv k 60 [.ptr a 0 0 0] S' fun t S'' => K (.tup [p8, .bool true]) S'')
  (fun i l vs S' => vs = [.int .i64 (i : Int)] ∧ l.length ≤ 200 + i ∧ WF S' ∧ ∃ O', CoreIn S' a { c with h := { c.h with log := l } } O' ∧ Mv O S O' S' ∧ Sl S' 1 dv (data.map encS) ∧ ∀ y, blkOf dv = some y → ¬ O' y)
  (fun l _ S' => WF S' ∧ ∃ O', CoreIn S' a { c with h := { c.h with log := l } } O' ∧ Mv O S O' S') ?_ ?_ ⟨rfl, hll, w, O, h, Mv.refl O S, hs, ho⟩ (fun _ S' ⟨w', O', in', m'⟩ => ?_)
 ·rintro i d l vs S1 ⟨rfl, hl, w1, O1, in1, m1, s1, f1⟩ hi
  have hil := (List.getElem?_eq_some_iff.1 hi).1
  have hlt : (i : Int) < (data.length : Int) := Int.ofNat_lt.2 hil
  have hw := small_next hil (Nat.le_trans hd (by decide))
  obtain ⟨p, hp, hat, _, _⟩ := s1.elem hi
  have hat0 : loadW none p S1 = .ok (.str d) := by rw [hat.load0]; rfl
  obtain ⟨lv, wv, dv', ov, rows, h1, hO⟩ := in1
  obtain ⟨S2, lv', S3, S4, q2, q3, q4, h4, m4⟩ := h1.push w1 ⟨c.h.term, 0, d⟩ [.int .i64 0,.int .i64 0,.str []] 19 13 14 (by decide) (by decide) (by decide) (Nat.le_trans hl (by omega))
  rw [← hO] at m4
  simp only [m20_l1, unD_cons, bin_lss, dR_ok, hlt, decide_true, pickD_true, ix38, hp, ld9, hat0, nilD_ptr, fa88_1, fa24_6, fa24_0, adv_ptr, Nat.reduceAdd, ld22, ld3, loadW_bump, h1.r_log, h1.r_term, bd59, build_entry2, bs22, q2, app22, q3, st22, q4, bin_add, hw]
  obtain ⟨s4, f4⟩ := off_mv w1 s1 f1 m4
  exact OkL.next ⟨l ++ [⟨c.h.term, 0, d⟩], rfl, rfl, by rw [List.length_append, List.length_singleton]; exact Nat.add_le_add_right hl 1, m4.wf w1, _, ⟨_, _, _, _, _, h4, rfl⟩, m1.trans w m4, s4, f4⟩
 ·rintro l vs S1 ⟨rfl, hl, w1, O1, in1, m1, s1, f1⟩
  have hlt : ¬ (data.length : Int) < (data.length : Int) := Int.lt_irrefl _
  refine ⟨(), ⟨w1, O1, in1, m1⟩, fun k K again => ?_⟩
  simp only [m20_l1, unD_cons, bin_lss, dR_ok, hlt, decide_false, pickD_false]
 ·rw [run_fold, fold_push] at in'
  exact hout S' O' w' in' m'
theorem g20 (data : List (List UInt8)) (dv : V) (w : WF S) (h : CoreIn S a c O) (I : Inv c) (hs : Sl S 1 dv (data.map encS)) (ho : ∀ y, blkOf dv = some y → ¬ O y) (hl : c.out.length ≤ 999990) :
  Meth 20 [.ptr a 0 0 0, dv] a (c.propose data).1 S O (.tup [.int .i64 (c.propose data).2.1, .bool (c.propose data).2.2]) := by
 have ok := I.h
 have hr := last_range ok
 have hb0 := ok.b0
 have hll := ok.ll
 have hin := h
 obtain ⟨lv, wv, dv', ov, rows, h, hO⟩ := h
 have hw1 : wr .i64 (120 - c.h.log.length) = 120 - c.h.log.length := wr64 (by omega) (by omega)
 have hw2 : wr .i64 (1099511627776 - c.last) = 1099511627776 - c.last := wr64 (by omega) (by omega)
 have hw3 : wr .i64 (c.last + 1) = c.last + 1 := wr64 (by omega) (by omega)
 have no : (c.role ≠ 3 ∨ data.length = 0 ∨ (120 : Int) - c.h.log.length < data.length ∨ (1099511627776 : Int) - c.last < data.length) → c.propose data = (c, 0, false) := fun hq => by unfold Core.propose; rw [if_pos hq]
 have noS : ∀ S', Ext S S' → c.propose data = (c, 0, false) → Ok (fun k K => K (.tup [.int .i64 0, .bool false]) S') (fun u S' => u = .tup [.int .i64 (c.propose data).2.1, .bool (c.propose data).2.2] ∧ ∃ O', CoreIn S' a (c.propose data).1 O' ∧ Mv O S O' S') := fun S' x e => by
  rw [e]; exact Ok.ret ⟨rfl, O, hin.ext w x, Mv.of x⟩
 refine e20 ?_
 simp only [m20, nilD_ptr, fa88_2, fa88_1, fa24_6, adv_ptr, Nat.reduceAdd, dR_ok, ld3, ld22, h.r_role, h.r_log, len38, hs.lenI, len22, h.log.sl.lenI, guard_int, dIf_true, bin_neq, bin_eql, bin_sub, hw1, bin_gtr]
 refine Ok.pickN (fun e => noS S (Ext.refl S) (no (.inl e))) (fun e => ?_)
 refine Ok.pickP (fun e2 => noS S (Ext.refl S) (no (.inr (.inl (by omega))))) (fun e2 => ?_)
 refine Ok.pickP (fun e3 => noS S (Ext.refl S) (no (.inr (.inr (.inl e3))))) (fun e3 => ?_)
 refine (g46 hin ok).call fun S1 x1 => ?_
 simp only [bin_sub, hw2, dR_ok, bin_gtr, len38, hs.lenI]
 refine Ok.pickP (fun e4 => noS S1 x1 (no (.inr (.inr (.inr e4))))) (fun e4 => ?_)
 have hd : data.length ≤ 200 := by omega
 have hn : ¬ (c.role ≠ 3 ∨ data.length = 0 ∨ (120 : Int) - c.h.log.length < data.length ∨ (1099511627776 : Int) - c.last < data.length) := fun q => by
  rcases q with q | q | q | q
  ·exact q e
  ·exact e2 (by rw [q]; rfl)
  ·exact e3 q
  ·exact e4 q
 have w1 := x1.wf w
 refine Ok.loopL (F := fun k K => m20_l0 (callD Try.prog dPl dLv k) k K (.ptr a 0 0 0) dv dv (.int .i64 data.length)) (ρ := Bool) (α := List UInt8) (X := Bool) data (step := longStep) (fin := fun _ => false) (s := ())
  (out := fun k K x S' => if x = true then K (.tup [.int .i64 0, .bool false]) S' else m20_l0 (callD Try.prog dPl dLv k) k K (.ptr a 0 0 0) dv dv (.int .i64 data.length) [.int .i64 0, .bool false, .int .i64 data.length] S' (fun _ _ => none))
  (fun i _ vs S' => vs = [.int .i64 0, .bool false, .int .i64 (i : Int)] ∧ S' = S1)
  (fun r x S' => r = x ∧ S' = S1) ?_ ?_ ⟨rfl, rfl⟩ (fun x S' ⟨ex, e5⟩ => ?_)
 ·rintro i d _ vs S2 ⟨rfl, rfl⟩ hi
  have hil := (List.getElem?_eq_some_iff.1 hi).1
  have hlt : (i : Int) < (data.length : Int) := Int.ofNat_lt.2 hil
  have hw := small_next hil (Nat.le_trans hd (by decide))
  obtain ⟨p, hp, hat, _, _⟩ := (hs.ext x1).elem hi
  have hat0 : loadW none p S2 = .ok (.str d) := by rw [hat.load0]; rfl
  simp only [m20_l0, unD_cons, bin_lss, dR_ok, hlt, decide_true, pickD_true, ix38, hp, ld9, hat0, len9s, bin_gtr, bin_add, hw]
  refine OkL.pickP (fun e6 => OkL.stop true ⟨true, by unfold longStep; rw [if_pos (by omega)], rfl, rfl⟩ (by intros; rfl)) (fun e6 => OkL.next ⟨(), by unfold longStep; rw [if_neg (by omega)], rfl, rfl⟩)
 ·rintro _ vs S2 ⟨rfl, rfl⟩
  have hlt : ¬ (data.length : Int) < (data.length : Int) := Int.lt_irrefl _
  refine ⟨false, ⟨rfl, rfl⟩, fun k K again => ?_⟩
  simp only [m20_l0, unD_cons, bin_lss, dR_ok, hlt, decide_false, pickD_false, if_neg (by decide : ¬ false = true)]
 ·subst e5
  rw [longR] at ex
  have hP : c.propose data = if data.any (fun d => decide (1100 < d.length)) = true then (c, 0, false) else
  (({ c with h := { c.h with log := c.h.log ++ data.map fun d => ⟨c.h.term, 0, d⟩ } } : Core).own, c.last + 1, true) := by unfold Core.propose; rw [if_neg hn]
  cases x with
  | true =>
   simp only [if_true]
   exact noS S' x1 (by rw [hP, if_pos ex])
  | false =>
   rw [hP, if_neg (by rw [ex]; decide)]
   have hlt : ¬ (data.length : Int) < (data.length : Int) := Int.lt_irrefl _
   simp only [m20_l0, unD_cons, bin_lss, dR_ok, hlt, decide_false, pickD_false, if_neg (by decide : ¬ false = true)]
   refine (g46 (hin.ext w x1) ok).call fun S2 x2 => ?_
   have x02 := x1.trans x2
   have w2 := x02.wf w
   simp only [bin_add, hw3, dR_ok, len38, (hs.ext x02).lenI]
   refine l20b data dv _ _ _ w2 (hin.ext w x02) (hs.ext x02) ho hd hll fun S3 O3 w3 in3 m3 => ?_
   have okp := (Inv.pushes I (r := data.map fun d => ⟨c.h.term, 0, d⟩) (fun x hx => by
    obtain ⟨d, hd', rfl⟩ := List.mem_map.1 hx
    have hlen : d.length ≤ 1100 := by
     by_cases hq : d.length ≤ 1100
     ·exact hq
     ·have : data.any (fun d => decide (1100 < d.length)) = true := List.any_eq_true.2 ⟨d, hd', decide_eq_true (by omega)⟩
      rw [this] at ex; cases ex
    exact ⟨⟨I.tm (by rw [e]; decide), Int.le_refl _, Int.le_refl _, by show (0 : Int) ≤ 127; decide, hlen, .inl rfl⟩, rfl⟩) (by rw [List.length_map]; omega) (by rw [List.length_map]; omega)).1
   refine Meth.call (g60 w3 in3 okp.h I.i0 I.i1 okp.s0 okp.s1 hl okp.pr) w3 fun S4 O4 w4 in4 m4 => Ok.ret ⟨rfl, O4, in4, ((Mv.of x02).trans w m3).trans w m4⟩
end
end
section
def chS (q : Nat → Prop) [DecidablePred q] (x : Peer) (l : List Peer) (i : Nat) : List Peer ⊕ List Peer := .inr (if q i then l.set i x else l)
theorem set_some (q : Nat → Prop) [DecidablePred q] (x : Peer) {l : List Peer} (h : l.length = 7) : runL (chS q x) id (List.range 7) l = (List.range 7).zipWith (fun (k : Nat) p => if q k then x else p) l := by
 obtain ⟨p0, p1, p2, p3, p4, p5, p6, rfl⟩ := seven h
 show runL _ id [0, 1, 2, 3, 4, 5, 6] _ = List.zipWith _ [0, 1, 2, 3, 4, 5, 6] _
 simp only [runL, chS, List.zipWith, id]
 by_cases a0 : q 0 <;> by_cases a1 : q 1 <;> by_cases a2 : q 2 <;> by_cases a3 : q 3 <;> by_cases a4 : q 4 <;> by_cases a5 : q 5 <;> by_cases a6 : q 6 <;> simp only [a0, a1, a2, a3, a4, a5, a6, if_true, if_false] <;> rfl
theorem change_inv {c : Core} (h : Raft.Inv c) {members : Int} (hr : c.role = 3) (hm : mayM (ofM c.h).1 members = true) (h120 : ¬ 120 ≤ c.h.log.length) (hix : ¬ 1099511627776 ≤ c.last) :
  Raft.Inv { c with h := { c.h with log := c.h.log ++ [⟨c.h.term, members, []⟩] } } ∧ Raft.Inv { c with h := { c.h with log := c.h.log ++ [⟨c.h.term, members, []⟩] }, peers := (List.range 7).zipWith (fun (k : Nat) p => if (k : Int) ≠ c.id ∧ hasM members (k : Int) = true ∧ hasM (ofM c.h).1 (k : Int) = false then ⟨c.last + 1, 0, 0⟩ else p) c.peers } := by
 simp only [mayM, setOK, Bool.and_eq_true, decide_eq_true_eq] at hm
 have ht := h.tm (by omega)
 obtain ⟨h1, k1⟩ := h.pushes (r := [⟨c.h.term, members, []⟩]) (fun x hx => by
  rw [List.mem_singleton.1 hx]
  exact ⟨⟨ht, Int.le_refl _, by show 0 ≤ members; omega, by show members ≤ 127; omega, by show 0 ≤ 1100; decide, .inr rfl⟩, rfl⟩) (by simp; omega) (by simp; omega)
 refine ⟨h1, h1.i0, h1.i1, h1.h, h1.role, h1.l0, h1.l1, h1.s0, h1.s1, h1.d0, h1.d1, h1.f0, h1.f1, h1.v0, h1.v1, by show (List.zipWith _ _ _).length = 7; rw [List.length_zipWith, h.pl]; rfl, fun hr' p hp => ?_, h1.tm, h1.w⟩
 obtain ⟨i, hi⟩ := List.mem_iff_getElem?.1 hp
 have hi' : ((List.range 7).zipWith (fun (k : Nat) p => if (k : Int) ≠ c.id ∧ hasM members (k : Int) = true ∧ hasM (ofM c.h).1 (k : Int) = false then (⟨c.last + 1, 0, 0⟩ : Peer) else p) c.peers)[i]? = some p := hi
 have hlast : lastH { c.h with log := c.h.log ++ [⟨c.h.term, members, []⟩] } = c.last + 1 := by unfold Core.last lastH; simp; omega
 have hb := h.h.b0
 have hl0 : 0 ≤ c.last := by unfold Core.last lastH; omega
 rw [List.getElem?_zipWith] at hi'
 split at hi'
 ·rename_i a b e1 e2
  cases hi'
  split
  ·exact ⟨Int.le_refl _, by show 0 ≤ lastH _; rw [hlast]; omega, by show 1 ≤ c.last + 1; omega, by show c.last + 1 ≤ lastH _ + 1; rw [hlast]; omega, Int.le_refl _, .inr rfl⟩
  ·exact (h1.pr hr b (List.mem_of_getElem? e2)).of (by rfl)
 ·cases hi'
theorem build_entry3 (t m : Int) : buildW [.int .i64 0,.int .i64 0,.str []] [(0, 1), (1, 1), (2, 1)] [(0, .int .i64 t), (1, .int .i64 m)] = .ok (.agg (encE ⟨t, m, []⟩)) := rfl
theorem build_next (x : Int) : buildV Try.prog 84 [(0, .int .i64 x)] = .ok (.agg (encP ⟨x, 0, 0⟩)) := by rw [bd84]; rfl
section
variable {S : St} {a b : Nat} {c : Core} {O : Nat → Prop}
theorem g21 (members : Int) (w : WF S) (h : CoreIn S a c O) (I : Inv c) (hl : c.out.length ≤ 999990) :
  Meth 21 [.ptr a 0 0 0, .int .i64 members] a (c.change members).1 S O (.tup [.int .i64 (c.change members).2.1, .bool (c.change members).2.2]) := by
 have ok := I.h
 have hr := last_range ok
 have hb0 := ok.b0
 have hll := ok.ll
 have hmr := members_range ok
 have hin := h
 obtain ⟨lv, wv, dv, ov, rows, h, hO⟩ := h
 have no : (c.role ≠ 3 ∨ mayM (ofM c.h).1 members = false ∨ c.sure < (ofM c.h).2 ∨ c.term c.sure ≠ c.h.term ∨ 120 ≤ c.h.log.length ∨ 1099511627776 ≤ c.last) → c.change members = (c, 0, false) := fun hq => by unfold Core.change; simp only; rw [if_pos hq]
 have noS : ∀ S', Ext S S' → c.change members = (c, 0, false) → Ok (fun k K => K (.tup [.int .i64 0, .bool false]) S') (fun u S' => u = .tup [.int .i64 (c.change members).2.1, .bool (c.change members).2.2] ∧ ∃ O', CoreIn S' a (c.change members).1 O' ∧ Mv O S O' S') := fun S' x e => by
  rw [e]; exact Ok.ret ⟨rfl, O, hin.ext w x, Mv.of x⟩
 refine e21 ?_
 simp only [m21, nilD_ptr, fa88_1, adv_ptr, Nat.reduceAdd, dR_ok, ld24, h.r_hard]
 refine (g49 c.h lv S w h.log.sl (by omega) ok.b0 ok.b1).call fun S1 x1 => ?_
 have w1 := x1.wf w
 have h1 := h.ext w x1
 have xb : Ext S1 (⟨S1.next + 47, S1.heap⟩ : St) := (Ext.refl S1).bump 47
 have x1b := x1.trans xb
 simp only [tupD_tup, List.getElem?_cons_zero, List.getElem?_cons_succ, dO_ok, nilD_ptr, fa88_2, adv_ptr, Nat.reduceAdd, dR_ok, ld3, loadW_bump, h1.r_role, guard_int, dIf_true, bin_neq]
 refine Ok.pickN (fun e => noS _ x1b (no (.inl e))) (fun e => ?_)
 refine (g61 _ members _ (xb.wf w1)).call fun S2 x2 => ?_
 have x02 := x1b.trans x2
 have w2 := x02.wf w
 have h2 := h.ext w x02
 simp only [un_not, dR_ok]
 refine Ok.pick (fun e2 => noS S2 x02 (no (.inr (.inl (by simpa using e2))))) (fun e2 => ?_)
 have hmay : mayM (ofM c.h).1 members = true := by simpa using e2
 simp only [nilD_ptr, fa88_4, fa88_1, fa24_0, adv_ptr, Nat.reduceAdd, dR_ok, ld3, h2.r_sure, h2.r_term, bin_gtr]
 refine Ok.pickP (fun e3 => noS S2 x02 (no (.inr (.inr (.inl e3))))) (fun e3 => ?_)
 refine (g62 (hin.ext w x02) ok (n := c.sure) I.s0 I.s1).call fun S3 x3 => ?_
 have x03 := x02.trans x3
 have h3 := h.ext w x03
 simp only [h3.r_term, dR_ok, beqV_int, dIf_true, guard_int, bin_neq]
 refine Ok.pickN (fun e4 => noS S3 x03 (no (.inr (.inr (.inr (.inl e4)))))) (fun e4 => ?_)
 simp only [nilD_ptr, fa88_1, fa24_6, adv_ptr, Nat.reduceAdd, dR_ok, ld22, h3.r_log, len22, h3.log.sl.lenI, bin_geq]
 refine Ok.pickP (fun e5 => noS S3 x03 (no (.inr (.inr (.inr (.inr (.inl (by omega)))))))) (fun e5 => ?_)
 refine (g46 (hin.ext w x03) ok).call fun S4 x4 => ?_
 have x04 := x03.trans x4
 have w4 := x04.wf w
 have h4 := h.ext w x04
 simp only [bin_geq, dR_ok]
 refine Ok.pickP (fun e6 => noS S4 x04 (no (.inr (.inr (.inr (.inr (.inr e6))))))) (fun e6 => ?_)
 have hn : ¬ (c.role ≠ 3 ∨ mayM (ofM c.h).1 members = false ∨ c.sure < (ofM c.h).2 ∨ c.term c.sure ≠ c.h.term ∨ 120 ≤ c.h.log.length ∨ 1099511627776 ≤ c.last) := fun q => by
  rcases q with q | q | q | q | q | q
  ·exact q e
  ·rw [q] at hmay; cases hmay
  ·exact e3 q
  ·exact q e4
  ·exact e5 (Int.ofNat_le.2 q)
  ·exact e6 q
 have h120 : ¬ 120 ≤ c.h.log.length := fun q => e5 (Int.ofNat_le.2 q)
 obtain ⟨I1, I2⟩ := change_inv I e hmay h120 e6
 obtain ⟨S5, lv', S6, S7, q5, q6, q7, h7, m7⟩ := h4.push w4 ⟨c.h.term, members, []⟩ [.int .i64 0,.int .i64 0,.str []] 19 13 14 (by decide) (by decide) (by decide) (Nat.le_trans hll (by decide))
 rw [← hO] at m7
 have w7 := m7.wf w4
 have mv7 := (Mv.of (O := O) x04).trans w m7
 simp only [nilD_ptr, fa88_1, fa24_6, fa24_0, adv_ptr, Nat.reduceAdd, dR_ok, ld22, ld3, loadW_bump, h4.r_log, h4.r_term, bd59, build_entry3, bs22, q5, app22, q6, st22, q7]
 have hlast : ({ c with h := { c.h with log := c.h.log ++ [⟨c.h.term, members, []⟩] } } : Core).last = c.last + 1 := by unfold Core.last lastH; simp; omega
 have hC : c.change members = (({ c with h := { c.h with log := c.h.log ++ [⟨c.h.term, members, []⟩] }, peers := (List.range 7).zipWith (fun (k : Nat) p => if (k : Int) ≠ c.id ∧ hasM members (k : Int) = true ∧ hasM (ofM c.h).1 (k : Int) = false then ⟨c.last + 1, 0, 0⟩ else p) c.peers } : Core).own, c.last + 1, true) := by
  unfold Core.change; simp only; rw [if_neg hn, hlast]
 rw [hC]
 refine (g46 ⟨_, _, _, _, _, h7, rfl⟩ I1.h).call fun S8 x8 => ?_
 have w8 := x8.wf w7
 have h8 := h7.ext w7 x8
 rw [hlast]
 have hmm := hmay
 simp only [mayM, setOK, Bool.and_eq_true, decide_eq_true_eq] at hmm
 rw [← set_some (fun (k : Nat) => (k : Int) ≠ c.id ∧ hasM members (k : Int) = true ∧ hasM (ofM c.h).1 (k : Int) = false) ⟨c.last + 1, 0, 0⟩ I.pl] at I2 ⊢
 refine Ok.loopL (F := fun k K => m21_l0 (callD Try.prog dPl dLv k) k K (.ptr a 0 0 0) (.int .i64 members) (.int .i64 (ofM c.h).1) (.int .i64 (c.last + 1))) (ρ := List Peer) (α := Nat) (X := List Peer) (List.range 7) (step := chS (fun (k : Nat) => (k : Int) ≠ c.id ∧ hasM members (k : Int) = true ∧ hasM (ofM c.h).1 (k : Int) = false) ⟨c.last + 1, 0, 0⟩) (fin := id) (s := c.peers)
  (out := fun k K _ S' => callD Try.prog dPl dLv k 60 [.ptr a 0 0 0] S' fun t S'' => K (.tup [.int .i64 (c.last + 1), .bool true]) S'')
  (fun i l vs S' => vs = [.int .i64 (i : Int)] ∧ WF S' ∧ ∃ O', CoreIn S' a { c with h := { c.h with log := c.h.log ++ [⟨c.h.term, members, []⟩] }, peers := l } O' ∧ Mv O S O' S')
  (fun l x S' => WF S' ∧ ∃ O', CoreIn S' a { c with h := { c.h with log := c.h.log ++ [⟨c.h.term, members, []⟩] }, peers := l } O' ∧ Mv O S O' S') ?_ ?_ ⟨rfl, w8, _, ⟨_, _, _, _, _, h8, rfl⟩, mv7.trans w (Mv.of x8)⟩ (fun l S9 ⟨w9, O9, in9, m9⟩ => ?_)
 ·rintro i i' l vs S9 ⟨rfl, w9, O9, in9, m9⟩ hi
  obtain ⟨hil, hj⟩ := List.getElem?_eq_some_iff.1 hi
  rw [List.length_range] at hil
  rw [List.getElem_range] at hj
  subst hj
  have hlt : (i : Int) < 7 := Int.ofNat_lt.2 hil
  have hw := small_next hil (by decide)
  have nx : ∀ S', Ext S9 S' → ¬ ((i : Int) ≠ c.id ∧ hasM members (i : Int) = true ∧ hasM (ofM c.h).1 (i : Int) = false) → Round (chS (fun (k : Nat) => (k : Int) ≠ c.id ∧ hasM members (k : Int) = true ∧ hasM (ofM c.h).1 (k : Int) = false) ⟨c.last + 1, 0, 0⟩) (fun i l vs S' => vs = [.int .i64 (i : Int)] ∧ WF S' ∧ ∃ O', CoreIn S' a { c with h := { c.h with log := c.h.log ++ [⟨c.h.term, members, []⟩] }, peers := l } O' ∧ Mv O S O' S') (fun l (x : List Peer) S' => WF S' ∧ ∃ O', CoreIn S' a { c with h := { c.h with log := c.h.log ++ [⟨c.h.term, members, []⟩] }, peers := l } O' ∧ Mv O S O' S') i l i (.next [.int .i64 ((i + 1 : Nat) : Int)] S') := fun S' x hno => ⟨l, by unfold chS; rw [if_neg hno], rfl, x.wf w9, O9, in9.ext w9 x, m9.trans w (Mv.of x)⟩
  obtain ⟨lv9, wv9, dv9, ov9, rows9, h9, hO9⟩ := in9
  simp only [m21_l0, unD_cons, bin_lss, dR_ok, hlt, decide_true, pickD_true, nilD_ptr, fa88_0, adv_ptr, Nat.reduceAdd, ld3, h9.r_id, guard_int, dIf_true, bin_neq]
  refine OkL.pickN (fun f1 => ?_) (fun f1 => by
   simp only [m21_j0, pickD_false, bin_add, hw, dR_ok]
   exact OkL.next (nx S9 (Ext.refl _) (fun q => q.1 f1)))
  refine (g50 members i S9 (by omega)).callL fun Sa xa => ?_
  have wa := xa.wf w9
  refine OkL.pick (fun f2 => ?_) (fun f2 => by
   simp only [m21_j0, pickD_false, bin_add, hw, dR_ok]
   exact OkL.next (nx Sa xa (fun q => by rw [q.2.1] at f2; cases f2)))
  refine (g50 _ i Sa (by omega)).callL fun Sb xb => ?_
  have x9b := xa.trans xb
  have wb := xb.wf wa
  simp only [un_not, dR_ok, m21_j0]
  refine OkL.pick (fun f3 => ?_) (fun f3 => by
   simp only [bin_add, hw, dR_ok]
   exact OkL.next (nx Sb x9b (fun q => by rw [q.2.2] at f3; cases f3)))
  have h9b := h9.ext w9 x9b
  obtain ⟨Sc, qc, hc, mc, _⟩ := h9b.w_peer wb hil ⟨c.last + 1, 0, 0⟩
  rw [← hO9] at mc
  simp only [build_next, nilD_ptr, fa88_8, adv_ptr, Nat.reduceAdd, aix85, aidx_ptr hil, dR_ok, st84, qc, bin_add, hw]
  exact OkL.next ⟨l.set i ⟨c.last + 1, 0, 0⟩, by unfold chS; rw [if_pos (show (i : Int) ≠ c.id ∧ hasM members (i : Int) = true ∧ hasM (ofM c.h).1 (i : Int) = false from ⟨f1, f2, by simpa using f3⟩)], rfl, mc.wf wb, O9, ⟨_, _, _, _, _, hc, hO9⟩, (m9.trans w (Mv.of x9b)).trans w mc⟩
 ·rintro l vs S9 ⟨rfl, w9, O9, in9, m9⟩
  have hlt : ¬ (((List.range 7).length : Nat) : Int) < 7 := by rw [List.length_range]; decide
  refine ⟨l, ⟨w9, O9, in9, m9⟩, fun k K again => ?_⟩
  simp only [m21_l0, unD_cons, bin_lss, dR_ok, hlt, decide_false, pickD_false]
 ·exact Meth.call (g60 w9 in9 I2.h I2.i0 I2.i1 I2.s0 I2.s1 hl I2.pr) w9 fun Sa Oa wa ina ma => Ok.ret ⟨rfl, Oa, ina, m9.trans w ma⟩
end
end
section
theorem Ext.put {S S' : St} (h : Ext S S') {a : Nat} (ha : S.next ≤ a) (hb : a < S'.next) (w : WF S) (b : Blk) : Ext S ⟨S'.next, S'.heap.put a b⟩ := h.set ha hb w b
abbrev zH : List V := [.int .i64 0,.int .i64 0,.int .i64 0,.int .i64 0,.int .i64 0,.str [],.nils]
theorem g35 (h : Hard) (lv : V) (S : St) (w : WF S) (hs : Sl S 3 lv (h.log.map encE)) (hl : h.log.length ≤ 1000000) : Does Try.prog dPl dLv 35 [.agg (cellsH h lv)] S (fun u S' => Ext S S' ∧ ∃ lv', u = .agg (cellsH h lv') ∧ Own S S' 3 lv' (h.log.map encE)) := by
 have ho := cellsH_one h hs.one
 have hln : (cellsH h lv).length = 7 := rfl
 obtain ⟨S1, hn1, x1, hg1, hnx1⟩ := nb w 7 (cellsH h lv)
 have w1 := x1.wf w
 obtain ⟨S2, hn2, x2, hg2, hnx2⟩ := nb w1 7 zH
 have w2 := x2.wf w1
 have x02 := x1.trans x2
 have g2 := x2.old _ _ hg1
 have v6 : loadW none (.ptr S.next 0 0 6) S2 = .ok lv := by rw [load_one _ _ _ _ _ (row_get g2)]; rfl
 obtain ⟨lv', S3, r3, x3, o3⟩ := (hs.ext x02).copy (b := 32) w2 (by rw [List.length_map]; omega) (by rw [List.length_map]; unfold lim; omega)
 have x03 := x02.trans x3
 have w3 := x3.wf w2
 have g3 := x3.old _ _ g2
 have ho3 := o3.sl
 have e4 := var_set (S := S3) (x := lv') (j := 6) (m := 1) g3 (by rw [slices_cells ho3]; rfl) (by rw [slices_cells ho3]; simp [allOne, ho3.one]) (by rw [hln]; omega)
 have c4 : splice (cellsH h lv) 6 lv'.cells = cellsH h lv' := by rw [slices_cells ho3]; rfl
 rw [c4] at e4
 have hlt : S.next < S3.next := w3 _ _ g3
 have x4 : Ext S (⟨S3.next, S3.heap.put S.next (.row 0 7 [cellsH h lv'])⟩ : St) := x03.set (Nat.le_refl _) hlt w _
 have g4 : (⟨S3.next, S3.heap.put S.next (.row 0 7 [cellsH h lv'])⟩ : St).heap.get S.next = some (.row 0 7 [cellsH h lv']) := Tr.get_put_sameB _ _ _ trivial
 have g4b : (⟨S3.next, S3.heap.put S.next (.row 0 7 [cellsH h lv'])⟩ : St).heap.get S1.next = some (.row 0 7 [zH]) := by
  show (S3.heap.put _ _).get _ = _
  rw [Tr.get_put_neB _ _ _ _ trivial (by omega)]
  exact x3.old _ _ hg2
 have o4 : Own S (⟨S3.next, S3.heap.put S.next (.row 0 7 [cellsH h lv'])⟩ : St) 3 lv' (h.log.map encE) :=
  (o3.weaken x02.next).but (fun y c hy hc => by show (S3.heap.put _ _).get y = _; rw [Tr.get_put_neB _ _ _ _ trivial hy]; exact hc) (Nat.le_refl _) g3 (by decide)
 generalize (⟨S3.next, S3.heap.put S.next (.row 0 7 [cellsH h lv'])⟩ : St) = S4 at e4 x4 g4 g4b o4
 have va : loadW (some 7) (.ptr S.next 0 0 0) S4 = .ok (.agg (cellsH h lv')) := by rw [load_one _ _ _ _ _ (row_get g4)]; exact partW_all _ _ rfl
 obtain ⟨e5, e6⟩ := cell_put g4b rfl (show (cellsH h lv').length = 7 from rfl) (cellsH_one h ho3.one)
 have hlt5 : S1.next < S4.next := x4.wf w _ _ g4b
 have x5 : Ext S (⟨S4.next, S4.heap.put S1.next (.row 0 7 [cellsH h lv'])⟩ : St) := x4.set x1.next hlt5 w _
 have o5 : Own S (⟨S4.next, S4.heap.put S1.next (.row 0 7 [cellsH h lv'])⟩ : St) 3 lv' (h.log.map encE) :=
  o4.but (fun y c hy hc => by show (S4.heap.put _ _).get y = _; rw [Tr.get_put_neB _ _ _ _ trivial hy]; exact hc) (Nat.le_refl _) g4b (by decide)
 refine e35 ?_
 simp only [m35, agg_cells, ho, hln, dIf_true, hn1, hn2, dR_ok, fa24_6, adv_ptr, Nat.reduceAdd, ld22, ld24, v6, app22, r3, st22, st24, e4, va, e5, e6]
 exact Ok.ret ⟨x5, lv', rfl, o5⟩
section
variable {S : St} {a b : Nat} {c : Core} {O : Nat → Prop}
theorem g14 (w : WF S) (h : CoreIn S a c O) (ok : Hok c.h) : Does Try.prog dPl dLv 14 [.ptr a 0 0 0] S (fun u S' => Ext S S' ∧ ∃ lv', u = .agg (cellsH c.h lv') ∧ Own S S' 3 lv' (c.h.log.map encE)) := by
 obtain ⟨S1, hn1, x1, hg1, hnx1⟩ := nb w 7 zH
 have w1 := x1.wf w
 have hll := ok.ll
 obtain ⟨lv, wv, dv, ov, rows, h1, hO⟩ := h.ext w x1
 refine e14 ?_
 simp only [m14, hn1, dR_ok, nilD_ptr, fa88_1, adv_ptr, Nat.reduceAdd, ld24, h1.r_hard]
 refine Does.call (g35 c.h lv S1 w1 h1.log.sl (by omega)) fun u S2 ⟨x2, lv', e, o2⟩ => ?_
 subst e
 have x02 := x1.trans x2
 have g2 := x2.old _ _ hg1
 have ho3 := o2.sl
 obtain ⟨e5, e6⟩ := cell_put g2 rfl (show (cellsH c.h lv').length = 7 from rfl) (cellsH_one c.h ho3.one)
 have hlt : S.next < S2.next := x2.wf w1 _ _ g2
 have x3 : Ext S (⟨S2.next, S2.heap.put S.next (.row 0 7 [cellsH c.h lv'])⟩ : St) := x02.set (Nat.le_refl _) hlt w _
 have o3 : Own S (⟨S2.next, S2.heap.put S.next (.row 0 7 [cellsH c.h lv'])⟩ : St) 3 lv' (c.h.log.map encE) :=
  (o2.weaken x1.next).but (fun y c hy hc => by show (S2.heap.put _ _).get y = _; rw [Tr.get_put_neB _ _ _ _ trivial hy]; exact hc) (Nat.le_refl _) g2 (by decide)
 simp only [st24, e5, dR_ok, e6]
 exact Ok.ret ⟨x3, lv', rfl, o3⟩
def viewV (v : View) : List V := [.int .i64 v.role, .int .i64 v.leads, .int .i64 v.commit, .int .i64 v.last, .int .i64 v.left, .int .i64 v.members]
theorem build_view (x1 x2 x3 x4 x5 x6 : Int) : buildV Try.prog 50 [(0, .int .i64 x1), (1, .int .i64 x2), (2, .int .i64 x3), (3, .int .i64 x4), (4, .int .i64 x5), (5, .int .i64 x6)] = .ok (.agg (viewV ⟨x1, x2, x3, x4, x5, x6⟩)) := by rw [bd50]; rfl
theorem g17 (w : WF S) (h : CoreIn S a c O) (ok : Hok c.h) : Giv 17 [.ptr a 0 0 0] S (.agg (viewV c.view)) := by
 obtain ⟨S1, hn1, x1, hg1, hnx1⟩ := nb w 6 [.int .i64 0, .int .i64 0, .int .i64 0, .int .i64 0, .int .i64 0, .int .i64 0]
 have w1 := x1.wf w
 have xb : Ext S1 (⟨S1.next + 22, S1.heap⟩ : St) := (Ext.refl S1).bump 22
 have in1 := h.ext w (x1.trans xb)
 have hin1 := in1
 obtain ⟨lv, wv, dv, ov, rows, h1, hO⟩ := h.ext w x1
 refine e17 ?_
 simp only [m17, hn1, dR_ok, nilD_ptr, fa88_2, fa88_3, fa88_4, fa88_6, adv_ptr, Nat.reduceAdd, ld3, loadW_bump, h1.r_role, h1.r_leads, h1.r_sure, h1.r_left]
 refine (g46 hin1 ok).call fun S2 x2 => ?_
 have x12 := xb.trans x2
 have w2 := x12.wf w1
 have h2 := h1.ext w1 x12
 simp only [h2.r_role, h2.r_leads, h2.r_sure, h2.r_left, dR_ok, beqV_int, dIf_true]
 refine (g47 w2 (h.ext w (x1.trans x12)) ok).call fun S3 x3 => ?_
 have x13 := x12.trans x3
 have h3 := h1.ext w1 x13
 have g3 := x13.old _ _ hg1
 have hv : (⟨c.role, c.leads, c.sure, c.last, c.left, c.members⟩ : View) = c.view := rfl
 obtain ⟨e5, e6⟩ := cell_put g3 rfl (show (viewV c.view).length = 6 from rfl) rfl
 have hlt : S.next < S3.next := x13.wf w1 _ _ g3
 have x4 : Ext S (⟨S3.next, S3.heap.put S.next (.row 0 6 [viewV c.view])⟩ : St) := (x1.trans x13).set (Nat.le_refl _) hlt w _
 simp only [h3.r_role, h3.r_leads, h3.r_sure, h3.r_left, dR_ok, beqV_int, dIf_true, build_view, hv, st50, e5, ld50, e6]
 exact Ok.ret ⟨rfl, x4⟩
end
end
section
def offStep (l : List Peer) (i : Nat) : List Peer ⊕ List Peer := .inr (l.set i { l.getD i ⟨0, 0, 0⟩ with off := 0 })
theorem offR {l : List Peer} (h : l.length = 7) : runL offStep id (List.range 7) l = l.map fun p => { p with off := 0 } := by
 obtain ⟨p0, p1, p2, p3, p4, p5, p6, rfl⟩ := seven h
 rfl
theorem bd_hard2 {u : V} (hu : u = .nils ∨ (∃ a, u = .imm a) ∨ ∃ a b d e f, u = .sl a b d e f) (t v i at' m : Int) (s : List UInt8) (l : List Entry) : buildW zH [(0, 1), (1, 1), (2, 1), (3, 1), (4, 1), (5, 1), (6, 1)] [(0, .int .i64 t), (1, .int .i64 v), (2, .int .i64 i), (3, .int .i64 at'), (4, .int .i64 m), (5, .str s), (6, u)] =
  .ok (.agg (cellsH ⟨t, v, i, at', m, s, l⟩ u)) := by
 rcases hu with rfl | ⟨a, rfl⟩ | ⟨a, b, d, e, f, rfl⟩ <;> rfl
section
variable {S : St} {a b : Nat} {c : Core} {O : Nat → Prop}
theorem g22 (index : Int) (snap : List UInt8) (w : WF S) (h : CoreIn S a c O) (I : Inv c) :
  Meth 22 [.ptr a 0 0 0, .int .i64 index, .str snap] a (c.compact index snap).1 S O (.int .i64 (c.compact index snap).2) := by
 have ok := I.h
 have hr := last_range ok
 have hb0 := ok.b0
 have hll := ok.ll
 have hs1 := I.s1
 have hin := h
 obtain ⟨lv, wv, dv, ov, rows, h, hO⟩ := h
 have no : (index ≤ c.h.base ∨ c.sure < index ∨ snap = [] ∨ 65536 < snap.length) → c.compact index snap = (c, 1) := fun hq => by unfold Core.compact; rw [if_pos hq]
 have noS : c.compact index snap = (c, 1) → Ok (fun k K => K (.int .i64 1) S) (fun u S' => u = .int .i64 (c.compact index snap).2 ∧ ∃ O', CoreIn S' a (c.compact index snap).1 O' ∧ Mv O S O' S') := fun e => by
  rw [e]; exact Ok.ret ⟨rfl, O, hin, Mv.refl O S⟩
 refine e22 ?_
 simp only [m22, nilD_ptr, fa88_1, fa88_4, fa24_2, adv_ptr, Nat.reduceAdd, dR_ok, ld3, h.r_base, h.r_sure, bin_leq, bin_gtr, guard_str, dIf_true, str_eql, text_nil, len9s]
 refine Ok.pickP (fun e => noS (no (.inl e))) (fun e => ?_)
 refine Ok.pickP (fun e2 => noS (no (.inr (.inl e2)))) (fun e2 => ?_)
 refine Ok.pickP (fun e3 => noS (no (.inr (.inr (.inl e3))))) (fun e3 => ?_)
 refine Ok.pickP (fun e4 => noS (no (.inr (.inr (.inr (Int.ofNat_lt.1 e4)))))) (fun e4 => ?_)
 have hn : ¬ (index ≤ c.h.base ∨ c.sure < index ∨ snap = [] ∨ 65536 < snap.length) := fun q => by
  rcases q with q | q | q | q
  ·exact e q
  ·exact e2 q
  ·exact e3 q
  ·exact e4 (Int.ofNat_lt.2 q)
 have hC : c.compact index snap = ({ c with h := { c.h with base := index, baseTerm := c.term index, members := (ofM { c.h with log := c.h.log.take (index - c.h.base).toNat }).1, snap := snap, log := c.h.log.drop (index - c.h.base).toNat }, peers := c.peers.map fun p => { p with off := 0 } }, 0) := by
  unfold Core.compact; rw [if_neg hn]
 rw [hC]
 have hlast : c.last = c.h.base + c.h.log.length := rfl
 have hk0 : 0 ≤ index - c.h.base := by omega
 have hk1 : index - c.h.base ≤ ((c.h.log.map encE).length : Int) := by rw [List.length_map]; omega
 have hw : wr .i64 (index - c.h.base) = index - c.h.base := wr64 (by omega) (by omega)
 simp only [bin_sub, hw]
 refine (g62 hin ok (n := index) (by omega) (by omega)).call fun S1 x1 => ?_
 have w1 := x1.wf w
 have h1 := h.ext w x1
 obtain ⟨S2, S3, q2, q3, x3, hg3, hn3⟩ := vb w1 7 zH (.agg (cellsH c.h lv)) rfl rfl (cellsH_one c.h h1.log.sl.one)
 rw [agg_cells] at hg3
 have x03 := x1.trans x3
 have w3 := x3.wf w1
 have h3 := h.ext w x03
 have v6 : loadW none (.ptr S1.next 0 0 (0 + 6)) S3 = .ok lv := by rw [load_one _ _ _ _ _ (row_get hg3)]; rfl
 obtain ⟨u1, r1, s1, _⟩ := sl_cut es22 h3.log.sl (bounds_hi .i64 hk0 hk1) (Nat.zero_le _) (by rw [List.length_map]; omega)
 have s1' : Sl S3 3 u1 ((c.h.log.take (index - c.h.base).toNat).map encE) := by rw [List.drop_zero] at s1; rw [List.map_take]; exact s1
 have e5 := var_set (S := S3) (x := u1) (j := 0 + 6) (m := 1) hg3 (by rw [slices_cells s1']; rfl) (by rw [slices_cells s1']; simp [allOne, s1'.one]) (by show 0 + 6 + 1 ≤ 7; omega)
 have c5 : splice (cellsH c.h lv) (0 + 6) u1.cells = cellsH { c.h with log := c.h.log.take (index - c.h.base).toNat } u1 := by rw [slices_cells s1']; rfl
 rw [c5] at e5
 have hlt3 : S1.next < S3.next := w3 _ _ hg3
 have x4 : Ext S (⟨S3.next, S3.heap.put S1.next (.row 0 7 [cellsH { c.h with log := c.h.log.take (index - c.h.base).toNat } u1])⟩ : St) := x03.set x1.next hlt3 w _
 have va : loadW (some 7) (.ptr S1.next 0 0 0) (⟨S3.next, S3.heap.put S1.next (.row 0 7 [cellsH { c.h with log := c.h.log.take (index - c.h.base).toNat } u1])⟩ : St) = .ok (.agg (cellsH { c.h with log := c.h.log.take (index - c.h.base).toNat } u1)) := by
  rw [load_put]; exact partW_all _ _ rfl
 have s4 : Sl (⟨S3.next, S3.heap.put S1.next (.row 0 7 [cellsH { c.h with log := c.h.log.take (index - c.h.base).toNat } u1])⟩ : St) 3 u1 ((c.h.log.take (index - c.h.base).toNat).map encE) :=
  s1'.but (fun y c hy hc => by show (S3.heap.put _ _).get y = _; rw [Tr.get_put_neB _ _ _ _ trivial hy]; exact hc) hg3 (by decide)
 generalize (⟨S3.next, S3.heap.put S1.next (.row 0 7 [cellsH { c.h with log := c.h.log.take (index - c.h.base).toNat } u1])⟩ : St) = S4 at e5 x4 va s4
 have w4 := x4.wf w
 simp only [nilD_ptr, fa88_1, fa24_6, adv_ptr, dR_ok, ld24, ld22, h1.r_hard, q2, st24, q3, v6, r1, st22, e5, va]
 have hr1 := h1.r_hard
 refine (g49 { c.h with log := c.h.log.take (index - c.h.base).toNat } u1 S4 w4 s4 (by show (c.h.log.take _).length ≤ 1000000; rw [List.length_take]; omega) ok.b0 ok.b1).call fun S5 x5 => ?_
 have x05 := x4.trans x5
 have w5 := x05.wf w
 have h5 := h.ext w x05
 have xc : Ext S5 (⟨S5.next + 27, S5.heap⟩ : St) := (Ext.refl S5).bump 27
 have hfree : (⟨S5.next + 27, S5.heap⟩ : St).heap.get (S5.next + 22) = none := free_at w5 27 (S5.next + 22) (by omega)
 obtain ⟨u2, r6, s6, _⟩ := sl_cut es22 h5.log.sl (bounds_lo .i64 hk0 hk1) (by rw [List.length_map]; omega) (Nat.le_refl _)
 rw [List.take_length, ← List.map_drop] at s6
 have hdl : (c.h.log.drop (index - c.h.base).toNat).length ≤ 200 := by rw [List.length_drop]; omega
 obtain ⟨lv6, S6, r7, x6, o6, _⟩ := (s6.ext xc).copyAt2 (b := 32) xc (k := S5.next + 22) (by omega) (by show S5.next + 22 < S5.next + 27; omega) hfree (by rw [List.length_map]; omega) (by rw [List.length_map]; unfold lim; omega)
 have x06 := x05.trans (xc.trans x6)
 have w6 := x06.wf w
 have h6 := h.ext w x06
 obtain ⟨S7, q7, h7, m7, _⟩ := h6.w_hardN w6 h w rfl (lv' := lv6) ⟨c.h.term, c.h.vote, index, c.term index, (ofM { c.h with log := c.h.log.take (index - c.h.base).toNat }).1, snap, c.h.log.drop (index - c.h.base).toNat⟩ (o6.weaken (Nat.zero_le _)) (fun y hy => Nat.le_trans x05.next (Own_lt o6 hy).1)
 have mv7 : Mv O S (own a lv6 wv dv ov) S7 := by rw [hO]; exact MvB.mv w ((MvB.of (Mv.of x06) (Nat.le_refl _)).trans m7)
 have w7 := mv7.wf w
 simp only [tupD_tup, List.getElem?_cons_zero, List.getElem?_cons_succ, dO_ok, nilD_ptr, fa88_1, fa24_0, fa24_1, fa24_6, adv_ptr, Nat.reduceAdd, dR_ok, ld3, ld22, loadW_bump, h5.r_term, h5.r_vote, h5.r_log, r6, app22, r7, h6.r_vote, h6.r_term, beqV_int, dIf_true, bd24, bd_hard2 (Sl.isv o6.sl) _ _ _ _ _ _ (c.h.log.drop (index - c.h.base).toNat), st24, q7]
 refine Ok.loopL (F := fun k K => m22_l0 (callD Try.prog dPl dLv k) k K (.ptr a 0 0 0)) (ρ := List Peer) (α := Nat) (X := List Peer) (List.range 7) (step := offStep) (fin := id) (s := c.peers)
  (out := fun k K _ S' => K (.int .i64 0) S')
  (fun i l vs S' => vs = [.int .i64 (i : Int)] ∧ WF S' ∧ ∃ O', CoreIn S' a { c with h := ⟨c.h.term, c.h.vote, index, c.term index, (ofM { c.h with log := c.h.log.take (index - c.h.base).toNat }).1, snap, c.h.log.drop (index - c.h.base).toNat⟩, peers := l } O' ∧ Mv O S O' S')
  (fun l x S' => ∃ O', CoreIn S' a { c with h := ⟨c.h.term, c.h.vote, index, c.term index, (ofM { c.h with log := c.h.log.take (index - c.h.base).toNat }).1, snap, c.h.log.drop (index - c.h.base).toNat⟩, peers := l } O' ∧ Mv O S O' S') ?_ ?_ ⟨rfl, w7, _, ⟨_, _, _, _, _, h7, rfl⟩, mv7⟩ (fun l S9 ⟨O9, in9, m9⟩ => ?_)
 ·rintro i i' l vs S8 ⟨rfl, w8, O8, in8, m8⟩ hi
  obtain ⟨hil, hj⟩ := List.getElem?_eq_some_iff.1 hi
  rw [List.length_range] at hil
  rw [List.getElem_range] at hj
  subst hj
  have hlt : (i : Int) < 7 := Int.ofNat_lt.2 hil
  have hwi := small_next hil (by decide)
  obtain ⟨lv8, wv8, dv8, ov8, rows8, h8, hO8⟩ := in8
  obtain ⟨S9, q9, h9, m9, _⟩ := h8.w_off w8 hil 0
  rw [← hO8] at m9
  simp only [m22_l0, unD_cons, bin_lss, dR_ok, hlt, decide_true, pickD_true, nilD_ptr, fa88_8, aix85, aidx_ptr hil, fa84_2, adv_ptr, Nat.reduceAdd, st3, q9, bin_add, hwi]
  exact OkL.next ⟨_, rfl, rfl, m9.wf w8, O8, ⟨_, _, _, _, _, h9, hO8⟩, m8.trans w m9⟩
 ·rintro l vs S8 ⟨rfl, w8, O8, in8, m8⟩
  have hlt : ¬ (((List.range 7).length : Nat) : Int) < 7 := by rw [List.length_range]; decide
  refine ⟨l, ⟨O8, in8, m8⟩, fun k K again => ?_⟩
  simp only [m22_l0, unD_cons, bin_lss, dR_ok, hlt, decide_false, pickD_false]
 ·rw [offR I.pl] at in9
  exact Ok.ret ⟨rfl, O9, in9, m9⟩
end
end
theorem dPl_dead : StepsDead dPl := plansOf_dead _ _ _
theorem bd_core {u : V} (hu : u = .nils ∨ (∃ a, u = .imm a) ∨ ∃ a b d e f, u = .sl a b d e f) (id base wt : Int) (h : Hard) : buildV Try.prog 88 [(0, .int .i64 id), (1, .agg (cellsH h u)), (2, .int .i64 1), (3, .int .i64 (-1)), (4, .int .i64 base), (5, .int .i64 wt), (6, .int .i64 wt)] =
  .ok (.agg (cellsC ⟨id, h, 1, -1, base, wt, wt, 0, List.replicate 7 ⟨0, 0, 0⟩, none, []⟩ u .nilp .nils)) := by
 rw [bd88]
 rcases hu with rfl | ⟨a, rfl⟩ | ⟨a, b, d, e, f, rfl⟩ <;> rfl
theorem cellsC_one (c : Core) {lv wv ov : V} (h1 : lv.one = true) (h2 : wv.one = true) (h3 : ov.one = true) (hp : c.peers.length = 7) : allOne (cellsC c lv wv ov) = true := by
 obtain ⟨p0, p1, p2, p3, p4, p5, p6, e⟩ := seven hp
 simp only [cellsC, cellsH, e, allOne, List.map_cons, List.map_nil, List.flatten_cons, List.flatten_nil, encP, List.cons_append, List.nil_append, List.all_cons, List.all_nil, h1, h2, h3, Bool.and_true]
 rfl
theorem g11 (id draw : Int) (h : Hard) (lv : V) (S : St) (w : WF S) (hs : Sl S 3 lv (h.log.map encE)) (hl : h.log.length ≤ 1000000) :
  Does Try.prog dPl dLv 11 [.int .i64 id, .agg (cellsH h lv), .int .i64 draw] S (fun u S' => Ext S S' ∧ match newM id h draw with
   | none => u = .tup [.nilp, .int .i64 1]
   | some c => ∃ a O, u = .tup [.ptr a 0 0 0, .int .i64 0] ∧ CoreIn S' a c O ∧ ∀ y, O y → S.next ≤ y) := by
 have ho := cellsH_one h hs.one
 have hln : (cellsH h lv).length = 7 := rfl
 obtain ⟨S1, hn1, x1, hg1, hnx1⟩ := nb w 7 (cellsH h lv)
 have w1 := x1.wf w
 have va : ∀ {T : St}, T.heap.get S.next = some (.row 0 7 [cellsH h lv]) → loadW (some 7) (.ptr S.next 0 0 0) T = .ok (.agg (cellsH h lv)) := fun hg => by rw [load_one _ _ _ _ _ (row_get hg)]; exact partW_all _ _ hln
 have v2 : ∀ {T : St}, T.heap.get S.next = some (.row 0 7 [cellsH h lv]) → loadW none (.ptr S.next 0 0 2) T = .ok (.int .i64 h.base) := fun hg => by rw [load_one _ _ _ _ _ (row_get hg)]; rfl
 have no : (id < 0 ∨ 7 ≤ id ∨ rightH h = false) → newM id h draw = none := fun q => by unfold newM; rw [if_pos q]
 refine e11 ?_
 simp only [m11, agg_cells, ho, hln, dIf_true, hn1, dR_ok, bin_lss, bin_geq, ld24, va hg1]
 refine Ok.pickP (fun e => Ok.ret ⟨x1, by rw [no (.inl e)]⟩) (fun e => ?_)
 refine Ok.pickP (fun e2 => Ok.ret ⟨x1, by rw [no (.inr (.inl e2))]⟩) (fun e2 => ?_)
 refine (g33 h lv S1 w1 (hs.ext x1) hl).call fun S2 x2 => ?_
 have x02 := x1.trans x2
 have w2 := x2.wf w1
 simp only [un_not, dR_ok]
 refine Ok.pick (fun e3 => Ok.ret ⟨x02, by rw [no (.inr (.inr (by simpa using e3)))]⟩) (fun e3 => ?_)
 have hy : ¬ (id < 0 ∨ 7 ≤ id ∨ rightH h = false) := fun q => by
  rcases q with q | q | q
  ·exact e q
  ·exact e2 q
  ·rw [q] at e3; cases e3
 have hN : newM id h draw = some ⟨id, h, 1, -1, h.base, waitM draw, waitM draw, 0, List.replicate 7 ⟨0, 0, 0⟩, none, []⟩ := by unfold newM; rw [if_neg hy]
 refine (g34 draw S2).call fun S3 x3 => ?_
 have x03 := x02.trans x3
 have w3 := x3.wf w2
 have g3 := x3.old _ _ (x2.old _ _ hg1)
 have xb : Ext S3 (⟨S3.next + 11, S3.heap⟩ : St) := (Ext.refl S3).bump 11
 have wb := xb.wf w3
 simp only [fa24_2, adv_ptr, Nat.reduceAdd, dR_ok, ld3, loadW_bump, va g3, v2 g3]
 refine Does.call (Does.dead dPl_dead (g35 h lv (⟨S3.next + 11, S3.heap⟩ : St) wb ((hs.ext x03).ext xb) hl)) fun u S4 ⟨⟨x4, lv', e4, o4⟩, d4⟩ => ?_
 subst e4
 have x34 := xb.trans x4
 have w4 := x34.wf w3
 have g4 := x34.old _ _ g3
 obtain ⟨f1, f2⟩ := told_free w3 (n := 11) d4 (k := S3.next + 8) (by omega) (by omega)
 have ho4 := o4.sl
 have hcl : (cellsC ⟨id, h, 1, -1, h.base, waitM draw, waitM draw, 0, List.replicate 7 ⟨0, 0, 0⟩, none, []⟩ lv' .nilp .nils).length = 37 := cells_len _ _ _ _ rfl
 have hco : allOne (cellsC ⟨id, h, 1, -1, h.base, waitM draw, waitM draw, 0, List.replicate 7 ⟨0, 0, 0⟩, none, []⟩ lv' .nilp .nils) = true := cellsC_one _ ho4.one rfl rfl rfl
 have x5 : Ext S4 (⟨S4.next, S4.heap.put (S3.next + 8) (.row 0 37 [cellsC ⟨id, h, 1, -1, h.base, waitM draw, waitM draw, 0, List.replicate 7 ⟨0, 0, 0⟩, none, []⟩ lv' .nilp .nils])⟩ : St) := Ext.newAt f1 f2 _
 have hx := x03.next
 simp only [v2 g4, dR_ok, beqV_int, dIf_true, bd_core (Sl.isv ho4), agg_cells, hcl, hco, newBlk_at]
 refine Ok.ret ⟨(x03.trans x34).trans x5, ?_⟩
 rw [hN]
 refine ⟨S3.next + 8, own (S3.next + 8) lv' .nilp .nils .nils, rfl, ⟨lv', .nilp, .nils, .nils, [], ⟨Tr.get_put_sameB _ _ _ trivial, rfl, (o4.ext x5).weaken (Nat.zero_le _), ⟨rfl, rfl⟩, Own.nil _ _ _, .nil⟩, rfl⟩, fun y hy => ?_⟩
 rcases hy with hy | hy | hy | hy | hy
 ·omega
 ·have := (Own_lt o4 hy).1
  have h9 : S3.next + 11 ≤ y := this
  omega
 ·cases hy
 ·cases hy
 ·cases hy
section
theorem g63 (x : Entry) (b t : Int) (S : St) (w : WF S) : Giv 63 [.agg (encE x), .int .i64 b, .int .i64 t] S (.bool (fitsM x b t)) := by
 have ho : allOne (encE x) = true := rfl
 have hln : (encE x).length = 3 := rfl
 obtain ⟨S1, hn1, x1, hg1, hnx1⟩ := nb w 3 (encE x)
 have v0 : loadW none (.ptr S.next 0 0 0) S1 = .ok (.int .i64 x.term) := by rw [load_one _ _ _ _ _ (row_get hg1)]; rfl
 have v1 : loadW none (.ptr S.next 0 0 1) S1 = .ok (.int .i64 x.members) := by rw [load_one _ _ _ _ _ (row_get hg1)]; rfl
 have v2 : loadW none (.ptr S.next 0 0 2) S1 = .ok (.str x.data) := by rw [load_one _ _ _ _ _ (row_get hg1)]; rfl
 refine e63 ?_
 simp only [m63, agg_cells, ho, hln, dIf_true, hn1, dR_ok, fa59_0, fa59_1, fa59_2, adv_ptr, Nat.reduceAdd, ld3, ld9, v0, v1, v2, len9s, bin_lss, bin_geq, bin_leq, guard_int, guard_str, bin_eql, str_eql, text_nil]
 unfold fitsM
 refine Ok.pickP (fun c1 => ?_) (fun c => Ok.ret ⟨by rw [decide_eq_false c]; rfl, x1⟩)
 rw [decide_eq_true c1]
 refine Ok.pickP (fun c2 => ?_) (fun c => Ok.ret ⟨by rw [decide_eq_false c]; rfl, x1⟩)
 rw [decide_eq_true c2]
 refine Ok.pickP (fun c3 => ?_) (fun c => Ok.ret ⟨by rw [decide_eq_false c]; rfl, x1⟩)
 rw [decide_eq_true c3]
 refine Ok.pickP (fun c4 => ?_) (fun c => Ok.ret ⟨by rw [decide_eq_false c]; rfl, x1⟩)
 rw [decide_eq_true c4]
 refine Ok.pickP (fun c5 => ?_) (fun c => Ok.ret ⟨by rw [decide_eq_false (by omega : ¬ x.members ≤ 127)]; rfl, x1⟩)
 rw [decide_eq_true (by omega : x.members ≤ 127)]
 refine Ok.pickP (fun c6 => ?_) (fun c => Ok.ret ⟨by rw [decide_eq_false (by omega : ¬ x.data.length ≤ 1100)]; rfl, x1⟩)
 rw [decide_eq_true (by omega : x.data.length ≤ 1100)]
 refine Ok.pickP (fun c => Ok.ret ⟨by rw [decide_eq_true c]; rfl, x1⟩) (fun c => Ok.ret ⟨by rw [decide_eq_false c]; rfl, x1⟩)
def rightP (h : Hard) : Prop := bareP h ∧ (h.snap = [] ↔ h.base = 0) ∧ h.snap.length ≤ 65536
theorem right_no {h : Hard} (q : ¬ rightP h) : rightH h = false := by
 cases e : rightH h with
 | false => rfl
 | true =>
  have k := (rightH_iff h).1 e
  exact absurd ⟨⟨k.t0, k.t1, k.v0, k.v1, k.m0, k.m1, k.b0, k.b1, k.bt0, k.bt1, k.btz, k.ll, k.li⟩, k.sz, k.sl⟩ q
theorem right_yes {h : Hard} (q : rightP h) : rightH h = fitsL h.term h.log h.baseTerm := by
 unfold rightH
 rw [bare_yes q.1, decide_eq_true q.2.1, decide_eq_true q.2.2]
 simp
theorem g23 (h : Hard) (lv : V) (S : St) (w : WF S) (hs : Sl S 3 lv (h.log.map encE)) (hlen : h.log.length ≤ 1000000) : Giv 23 [.agg (cellsH h lv)] S (.bool (rightH h)) := by
 refine e23 ?_
 have ho := cellsH_one h hs.one
 have hln : (cellsH h lv).length = 7 := rfl
 obtain ⟨S1, hn1, x1, hg1, hnx1⟩ := nb w 7 (cellsH h lv)
 have w1 := x1.wf w
 have hs1 := hs.ext x1
 have v0 : ∀ {T : St}, T.heap.get S.next = some (.row 0 7 [cellsH h lv]) → loadW none (.ptr S.next 0 0 0) T = .ok (.int .i64 h.term) := fun hg => by rw [load_one _ _ _ _ _ (row_get hg)]; rfl
 have v1 : loadW none (.ptr S.next 0 0 1) S1 = .ok (.int .i64 h.vote) := by rw [load_one _ _ _ _ _ (row_get hg1)]; rfl
 have v2 : loadW none (.ptr S.next 0 0 2) S1 = .ok (.int .i64 h.base) := by rw [load_one _ _ _ _ _ (row_get hg1)]; rfl
 have v3 : loadW none (.ptr S.next 0 0 3) S1 = .ok (.int .i64 h.baseTerm) := by rw [load_one _ _ _ _ _ (row_get hg1)]; rfl
 have v4 : loadW none (.ptr S.next 0 0 4) S1 = .ok (.int .i64 h.members) := by rw [load_one _ _ _ _ _ (row_get hg1)]; rfl
 have v5 : loadW none (.ptr S.next 0 0 5) S1 = .ok (.str h.snap) := by rw [load_one _ _ _ _ _ (row_get hg1)]; rfl
 have v6 : ∀ {T : St}, T.heap.get S.next = some (.row 0 7 [cellsH h lv]) → loadW none (.ptr S.next 0 0 6) T = .ok lv := fun hg => by rw [load_one _ _ _ _ _ (row_get hg)]; rfl
 have no : ∀ (q : ¬ rightP h), (V.bool false = V.bool (rightH h)) := fun q => by rw [right_no q]
 simp only [m23, agg_cells, ho, hln, dIf_true, hn1, dR_ok, fa24_0, fa24_1, fa24_2, fa24_3, fa24_4, fa24_5, fa24_6, adv_ptr, Nat.reduceAdd, ld3, ld9, ld22, v0 hg1, v1, v2, v3, v4, v5, v6 hg1, len22, len9s, hs1.lenI, bin_lss, bin_gtr, bin_geq, bin_eql, bin_sub, guard_int, guard_bool, guard_str, str_eql, text_nil, bool_neq4]
 refine Ok.pickP (fun c => Ok.ret ⟨no fun q => by have := q.1.1; omega, x1⟩) fun c1 => ?_
 refine Ok.pickP (fun c => Ok.ret ⟨no fun q => by have := q.1.2.1; omega, x1⟩) fun c2 => ?_
 refine Ok.pickP (fun c => Ok.ret ⟨no fun q => by have := q.1.2.2.1; omega, x1⟩) fun c3 => ?_
 refine Ok.pickP (fun c => Ok.ret ⟨no fun q => by have := q.1.2.2.2.1; omega, x1⟩) fun c4 => ?_
 refine Ok.pickP (fun c => Ok.ret ⟨no fun q => by have := q.1.2.2.2.2.2.2.1; omega, x1⟩) fun c5 => ?_
 refine Ok.pickP (fun c => Ok.ret ⟨no fun q => by have := q.1.2.2.2.2.2.2.2.1; omega, x1⟩) fun c6 => ?_
 refine Ok.pickP (fun c => Ok.ret ⟨no fun q => by have := q.1.2.2.2.2.2.2.2.2.1; omega, x1⟩) fun c7 => ?_
 refine Ok.pickP (fun c => Ok.ret ⟨no fun q => by have := q.1.2.2.2.2.2.2.2.2.2.1; omega, x1⟩) fun c8 => ?_
 refine Ok.pick (fun c => Ok.ret ⟨no fun q => ?_, x1⟩) fun c9 => ?_
 ·have q11 := q.1.2.2.2.2.2.2.2.2.2.2.1
  by_cases e : h.base = 0
  ·simp [q11.2 e, e] at c
  ·have e2 : ¬ h.baseTerm = 0 := fun e2 => e (q11.1 e2)
   simp [e, e2] at c
 have q11 : h.baseTerm = 0 ↔ h.base = 0 := by
  by_cases e : h.base = 0 <;> by_cases e2 : h.baseTerm = 0 <;> simp [e, e2] at c9 ⊢
 refine Ok.pickP (fun c => Ok.ret ⟨no fun q => by have := q.1.2.2.2.2.1; omega, x1⟩) fun c10 => ?_
 refine Ok.pickP (fun c => Ok.ret ⟨no fun q => by have := q.1.2.2.2.2.2.1; omega, x1⟩) fun c11 => ?_
 refine Ok.pick (fun c => Ok.ret ⟨no fun q => ?_, x1⟩) fun c12 => ?_
 ·have q12 := q.2.1
  by_cases e : h.base = 0
  ·simp [q12.2 e, e] at c
  ·have e2 : ¬ h.snap = [] := fun e2 => e (q12.1 e2)
   simp [e, e2] at c
 have q12 : h.snap = [] ↔ h.base = 0 := by
  by_cases e : h.base = 0 <;> by_cases e2 : h.snap = [] <;> simp [e, e2] at c12 ⊢
 refine Ok.pickP (fun c => Ok.ret ⟨no fun q => by have := q.2.2; omega, x1⟩) fun c13 => ?_
 refine Ok.pickP (fun c => Ok.ret ⟨no fun q => by have := q.1.2.2.2.2.2.2.2.2.2.2.2.1; omega, x1⟩) fun c14 => ?_
 have hwb : wr .i64 (1099511627776 - h.log.length) = 1099511627776 - h.log.length := wr64 (by omega) (by omega)
 simp only [hwb]
 refine Ok.pickP (fun c => Ok.ret ⟨no fun q => by have := q.1.2.2.2.2.2.2.2.2.2.2.2.2; omega, x1⟩) fun c15 => ?_
 rw [right_yes ⟨⟨by omega, by omega, by omega, by omega, by omega, by omega, by omega, by omega, by omega, by omega, q11, by omega, by omega⟩, q12, by omega⟩, ← fitL]
 refine Ok.loopL (F := fun k K => m23_l0 (callD Try.prog dPl dLv k) k K (.ptr S.next 0 0 0)) (ρ := Bool) (α := Entry) (X := Bool) h.log (step := fitStep h.term) (fin := fun _ => true) (s := h.baseTerm)
  (out := fun k K x S' => K (.bool x) S')
  (fun i b vs T => vs = [.bool false, .int .i64 b, .int .i64 (i : Int)] ∧ Ext S1 T)
  (fun r x T => r = x ∧ Ext S1 T) ?_ ?_ ⟨rfl, Ext.refl _⟩ (fun x T ⟨e, xt⟩ => Ok.ret ⟨by rw [e], x1.trans xt⟩)
 ·rintro i x b vs T ⟨rfl, xt⟩ hi
  have hil : i < h.log.length := (List.getElem?_eq_some_iff.1 hi).1
  have hlt : (i : Int) < (h.log.length : Int) := Int.ofNat_lt.2 hil
  have hw := small_next hil hlen
  have gT := xt.old _ _ hg1
  have hsT := hs1.ext xt
  have xb : Ext T (⟨T.next + 10, T.heap⟩ : St) := (Ext.refl T).bump 10
  obtain ⟨p, hp, hat, _, _⟩ := hsT.elem hi
  have hat0 : loadW (some 3) p T = .ok (.agg (encE x)) := by rw [hat.load0]; exact partW_all _ _ rfl
  simp only [m23_l0, unD_cons, fa24_6, fa24_0, adv_ptr, Nat.reduceAdd, dR_ok, ld22, ld3, ld59, loadW_bump, v6 gT, v0 gT, len22, hsT.lenI, bin_lss, hlt, decide_true, pickD_true, ix22, hp, hat0]
  refine (g63 x b h.term _ (xb.wf (xt.wf w1))).callL fun T2 x2 => ?_
  have xT2 := xb.trans x2
  have gT2 := xT2.old _ _ gT
  obtain ⟨p', hp', hat', _, _⟩ := (hsT.ext xT2).elem hi
  have hat1 : loadW none (adv 0 p') T2 = .ok (.int .i64 x.term) := by rw [hat'.load]; rfl
  rw [hp] at hp'
  cases hp'
  simp only [un_not, dR_ok]
  refine OkL.pick (fun c => OkL.stop false ⟨false, by unfold fitStep; rw [if_neg (by simpa using c)], rfl, xt.trans xT2⟩ (by intros; rfl)) (fun c => ?_)
  simp only [fa24_6, adv_ptr, Nat.reduceAdd, dR_ok, ld22, v6 gT2, ix22, hp, fa59_0, hat'.advW, ld3, hat1, bin_add, hw]
  exact OkL.next ⟨x.term, by unfold fitStep; rw [if_pos (by simpa using c)], rfl, xt.trans xT2⟩
 ·rintro b vs T ⟨rfl, xt⟩
  have hlt : ¬ (h.log.length : Int) < (h.log.length : Int) := Int.lt_irrefl _
  have gT := xt.old _ _ hg1
  refine ⟨true, ⟨rfl, xt⟩, fun k K again => ?_⟩
  simp only [m23_l0, unD_cons, fa24_6, adv_ptr, Nat.reduceAdd, dR_ok, ld22, v6 gT, len22, (hs1.ext xt).lenI, bin_lss, hlt, decide_false, pickD_false]
def smallStep (n : Int) (x : Entry) : Bool ⊕ Int := if 9000 < wr .i64 (n + x.data.length) then .inl false else .inr (wr .i64 (n + x.data.length))
theorem g9 (h : Hard) (lv : V) (S : St) (w : WF S) (hs : Sl S 3 lv (h.log.map encE)) : Does Try.prog dPl dLv 9 [.agg (cellsH h lv)] S (fun u S' => Ext S S' ∧ ((u = .bool true ∧ h.log.length ≤ 40) ∨ u = .bool false)) := by
 refine e9 ?_
 have ho := cellsH_one h hs.one
 have hln : (cellsH h lv).length = 7 := rfl
 obtain ⟨S1, hn1, x1, hg1, hnx1⟩ := nb w 7 (cellsH h lv)
 have w1 := x1.wf w
 have hs1 := hs.ext x1
 have v5 : loadW none (.ptr S.next 0 0 5) S1 = .ok (.str h.snap) := by rw [load_one _ _ _ _ _ (row_get hg1)]; rfl
 have v6 : ∀ {T : St}, T.heap.get S.next = some (.row 0 7 [cellsH h lv]) → loadW none (.ptr S.next 0 0 6) T = .ok lv := fun hg => by rw [load_one _ _ _ _ _ (row_get hg)]; rfl
 simp only [m9, agg_cells, ho, hln, dIf_true, hn1, dR_ok, fa24_5, fa24_6, adv_ptr, Nat.reduceAdd, ld9, ld22, v5, v6 hg1, len22, len9s, hs1.lenI, bin_gtr]
 refine Ok.pickP (fun c => Ok.ret ⟨x1, .inr rfl⟩) fun c => ?_
 have hl : h.log.length ≤ 40 := by omega
 refine Ok.loopL (F := fun k K => m9_l0 (callD Try.prog dPl dLv k) k K (.ptr S.next 0 0 0)) (ρ := Bool) (α := Entry) (X := Bool) h.log (step := smallStep) (fin := fun n => decide (n ≤ 9000)) (s := (h.snap.length : Int))
  (out := fun k K x S' => K (.bool x) S')
  (fun i n vs T => vs = [.bool false, .int .i64 n, .int .i64 (i : Int)] ∧ T = S1)
  (fun r x T => T = S1) ?_ ?_ ⟨rfl, rfl⟩ (fun x T e => Ok.ret ⟨by rw [e]; exact x1, by cases x; exact .inr rfl; exact .inl ⟨rfl, hl⟩⟩)
 ·rintro i x n vs T ⟨rfl, rfl⟩ hi
  have hil : i < h.log.length := (List.getElem?_eq_some_iff.1 hi).1
  have hlt : (i : Int) < (h.log.length : Int) := Int.ofNat_lt.2 hil
  have hw := small_next hil (Nat.le_trans hl (by decide))
  obtain ⟨p, hp, hat, _, _⟩ := hs1.elem hi
  have hat2 : loadW none (adv 2 p) T = .ok (.str x.data) := by rw [hat.load]; rfl
  simp only [m9_l0, unD_cons, fa24_6, adv_ptr, Nat.reduceAdd, dR_ok, ld22, ld9, v6 hg1, len22, hs1.lenI, bin_lss, hlt, decide_true, pickD_true, ix22, hp, fa59_2, hat.advW, hat2, len9s, bin_add, bin_gtr, hw]
  refine OkL.pickP (fun c => OkL.stop false ⟨false, by unfold smallStep; rw [if_pos c], rfl⟩ (by intros; rfl)) (fun c => OkL.next ⟨_, by unfold smallStep; rw [if_neg c], rfl, rfl⟩)
 ·rintro n vs T ⟨rfl, rfl⟩
  have hlt : ¬ (h.log.length : Int) < (h.log.length : Int) := Int.lt_irrefl _
  refine ⟨decide (n ≤ 9000), rfl, fun k K again => ?_⟩
  simp only [m9_l0, unD_cons, fa24_6, adv_ptr, Nat.reduceAdd, dR_ok, ld22, v6 hg1, len22, hs1.lenI, bin_lss, bin_leq, hlt, decide_false, pickD_false]
structure Ask where
 kind : Int
 n : Int
 m : Letter
 ev : V
 data : List (List UInt8)
 dv : V
def encA (q : Ask) : List V := [.int .i64 q.kind, .int .i64 q.n] ++ cellsL q.m q.ev ++ [q.dv]
structure AskOK (q : Ask) : Prop where
 e : ∀ S, Sl S 3 q.ev (q.m.entries.map encE)
 d : ∀ S, Sl S 1 q.dv (q.data.map encS)
 eb : blkOf q.ev = none
 db : blkOf q.dv = none
theorem encA_one {q : Ask} (h : AskOK q) : allOne (encA q) = true := by
 have h1 := (h.e St.empty).one
 have h2 := (h.d St.empty).one
 simp only [encA, cellsL, allOne, List.cons_append, List.nil_append, List.all_cons, List.all_nil, h1, h2, Bool.and_true]
 rfl
section
variable {S : St} {a : Nat} {q : Ask} (h : S.heap.get a = some (.row 0 16 [encA q]))
include h
theorem a_ents : loadW none (.ptr a 0 0 14) S = .ok q.ev := by rw [load_one _ _ _ _ _ (row_get h)]; rfl
theorem a_text : loadW none (.ptr a 0 0 13) S = .ok (.str q.m.data) := by rw [load_one _ _ _ _ _ (row_get h)]; rfl
theorem a_data : loadW none (.ptr a 0 0 15) S = .ok q.dv := by rw [load_one _ _ _ _ _ (row_get h)]; rfl
end
theorem g13 (q : Ask) (S : St) (w : WF S) (hq : AskOK q) : Does Try.prog dPl dLv 13 [.agg (encA q)] S (fun u S' => Ext S S' ∧ ((u = .bool true ∧ q.m.entries.length ≤ 20 ∧ q.data.length ≤ 130) ∨ u = .bool false)) := by
 refine e13 ?_
 have ho := encA_one hq
 have hln : (encA q).length = 16 := rfl
 obtain ⟨S1, hn1, x1, hg1, hnx1⟩ := nb w 16 (encA q)
 have w1 := x1.wf w
 have he1 := hq.e S1
 have hd1 := hq.d S1
 simp only [m13, agg_cells, ho, hln, dIf_true, hn1, dR_ok, fa40_2, fa40_3, fa37_11, fa37_12, adv_ptr, Nat.reduceAdd, ld9, ld22, ld38, a_ents hg1, a_text hg1, a_data hg1, len22, len38, len9s, he1.lenI, hd1.lenI, bin_gtr]
 refine Ok.pickP (fun c => Ok.ret ⟨x1, .inr rfl⟩) fun c => ?_
 refine Ok.pickP (fun c2 => Ok.ret ⟨x1, .inr rfl⟩) fun c2 => ?_
 refine Ok.pickP (fun c3 => Ok.ret ⟨x1, .inr rfl⟩) fun c3 => ?_
 have h20 : q.m.entries.length ≤ 20 := by omega
 have h130 : q.data.length ≤ 130 := by omega
 refine Ok.loopL (F := fun k K => m13_l0 (callD Try.prog dPl dLv k) k K (.ptr S.next 0 0 0)) (ρ := Int) (α := List UInt8) (X := Int) q.data (step := fun n d => .inr (wr .i64 (n + d.length))) (fin := id) (s := 0)
  (out := fun k K n S' => loopD k [.int .i64 n, .int .i64 0] S' (m13_l1 (callD Try.prog dPl dLv k) k K (.ptr S.next 0 0 0)))
  (fun i n vs T => vs = [.int .i64 n, .int .i64 (i : Int)] ∧ T = S1)
  (fun r x T => T = S1) ?_ ?_ ⟨rfl, rfl⟩ (fun n T e => ?_)
 ·rintro i d n vs T ⟨rfl, rfl⟩ hi
  have hil : i < q.data.length := (List.getElem?_eq_some_iff.1 hi).1
  have hlt : (i : Int) < (q.data.length : Int) := Int.ofNat_lt.2 hil
  have hw := small_next hil (Nat.le_trans h130 (by decide))
  obtain ⟨p, hp, hat, _, _⟩ := hd1.elem hi
  have hat0 : loadW none p T = .ok (.str d) := by rw [hat.load0]; rfl
  simp only [m13_l0, unD_cons, fa40_3, adv_ptr, Nat.reduceAdd, dR_ok, ld38, ld9, a_data hg1, len38, hd1.lenI, bin_lss, hlt, decide_true, pickD_true, ix38, hp, hat0, len9s, bin_add, hw]
  exact OkL.next ⟨_, rfl, rfl, rfl⟩
 ·rintro n vs T ⟨rfl, rfl⟩
  have hlt : ¬ (q.data.length : Int) < (q.data.length : Int) := Int.lt_irrefl _
  refine ⟨n, rfl, fun k K again => ?_⟩
  simp only [m13_l0, unD_cons, fa40_3, adv_ptr, Nat.reduceAdd, dR_ok, ld38, a_data hg1, len38, hd1.lenI, bin_lss, hlt, decide_false, pickD_false]
 ·subst e
  refine Ok.loopL (F := fun k K => m13_l1 (callD Try.prog dPl dLv k) k K (.ptr S.next 0 0 0)) (ρ := Int) (α := Entry) (X := Int) q.m.entries (step := fun n d => .inr (wr .i64 (n + d.data.length))) (fin := id) (s := n)
   (out := fun k K n S' => K (.bool (decide (n < 5000))) S')
   (fun i n vs T' => vs = [.int .i64 n, .int .i64 (i : Int)] ∧ T' = T)
   (fun r x T' => T' = T) ?_ ?_ ⟨rfl, rfl⟩ (fun n T' e => Ok.ret ⟨by rw [e]; exact x1, by cases decide (n < 5000); exact .inr rfl; exact .inl ⟨rfl, h20, h130⟩⟩)
  ·rintro i d n vs T' ⟨rfl, rfl⟩ hi
   have hil : i < q.m.entries.length := (List.getElem?_eq_some_iff.1 hi).1
   have hlt : (i : Int) < (q.m.entries.length : Int) := Int.ofNat_lt.2 hil
   have hw := small_next hil (Nat.le_trans h20 (by decide))
   obtain ⟨p, hp, hat, _, _⟩ := he1.elem hi
   have hat2 : loadW none (adv 2 p) T' = .ok (.str d.data) := by rw [hat.load]; rfl
   simp only [m13_l1, unD_cons, fa40_2, fa37_12, adv_ptr, Nat.reduceAdd, dR_ok, ld22, ld9, a_ents hg1, len22, he1.lenI, bin_lss, hlt, decide_true, pickD_true, ix22, hp, fa59_2, hat.advW, hat2, len9s, bin_add, hw]
   exact OkL.next ⟨_, rfl, rfl, rfl⟩
  ·rintro n vs T' ⟨rfl, rfl⟩
   have hlt : ¬ (q.m.entries.length : Int) < (q.m.entries.length : Int) := Int.lt_irrefl _
   refine ⟨n, rfl, fun k K again => ?_⟩
   simp only [m13_l1, unD_cons, fa40_2, fa37_12, adv_ptr, Nat.reduceAdd, dR_ok, ld22, a_ents hg1, len22, he1.lenI, bin_lss, hlt, decide_false, pickD_false]
end
end Go.Proofs.Ytbiidlmhadihlaa
end
section
namespace Go.Raft
open Go.AM
theorem send_out (c : Core) (f : Int) : (c.send f).out.length = c.out.length + 1 := by
 unfold Core.send; simp only; split <;> simp [Core.post]
theorem fold_out (g : Core → Int → Core) (hg : ∀ c f, (g c f).out.length = c.out.length + 1) : ∀ (l : List Int) (c : Core), (l.foldl g c).out.length = c.out.length + l.length
 | [], c => rfl
 | f :: l, c => by rw [List.foldl_cons, fold_out g hg l, hg, List.length_cons]; omega
theorem others_len (c : Core) : c.others.length ≤ 7 := Nat.le_trans (List.length_filter_le _ _) (List.length_filter_le _ _)
theorem spread_out (c : Core) : c.spread.out.length ≤ c.out.length + 7 := by
 have h := others_len c
 unfold Core.spread
 split
 ·rw [fold_out _ send_out]; omega
 ·omega
theorem look_out (c : Core) : c.look.out = c.out := by
 unfold Core.look; simp only; split <;> rfl
theorem own_out (c : Core) : c.own.out.length ≤ c.out.length + 7 := by
 unfold Core.own
 have h := spread_out (c.setPeer c.id { c.peer c.id with mtch := c.last }).look
 rw [look_out] at h
 exact h
theorem lead_out (c : Core) : c.lead.out.length ≤ c.out.length + 7 := by
 unfold Core.lead
 simp only
 split
 ·exact own_out _
 ·exact own_out _
theorem stand_out (c : Core) : c.stand.out.length ≤ c.out.length + 7 := by
 unfold Core.stand
 simp only
 split
 ·exact lead_out _
 ·rw [fold_out _ (fun d f => by simp [Core.post])]
  have h := others_len ({ c with h := { c.h with term := c.h.term + 1, vote := c.id }, role := 2, leads := -1, votes := (2 : Int) ^ c.id.toNat } : Core)
  exact Nat.add_le_add_left h _
theorem tick_out (c : Core) (d : Int) : (c.tick d).out.length ≤ c.out.length + 7 := by
 unfold Core.tick
 simp only
 split
 ·exact Nat.le_add_right _ _
 ·split
  ·exact spread_out _
  ·split
   ·exact stand_out _
   ·exact Nat.le_add_right _ _
theorem post_out (c : Core) (m : Letter) : (c.post m).out.length ≤ c.out.length + 7 := by simp [Core.post]
theorem send_out7 (c : Core) (f : Int) : (c.send f).out.length ≤ c.out.length + 7 := by rw [send_out]; omega
theorem take_out (c : Core) (m : Letter) : (c.take m).out.length ≤ c.out.length + 7 := by
 unfold Core.take
 split
 ·exact Nat.le_add_right _ _
 ·generalize hc : (if c.h.term < m.term then { c with h := { c.h with term := m.term, vote := -1 }, role := 1, leads := -1 } else c : Core) = d
  have hd : d.out = c.out := by rw [← hc]; split <;> rfl
  rw [← hd]
  simp only
  split
  ·unfold Core.late; split
   ·exact post_out _ _
   ·split
    ·exact post_out _ _
    ·exact Nat.le_add_right _ _
  split
  ·unfold Core.asked; simp only; split
   ·exact post_out _ _
   ·exact post_out _ _
  split
  ·unfold Core.voted; split
   ·exact Nat.le_add_right _ _
   ·simp only; split
    ·exact lead_out _
    ·exact Nat.le_add_right _ _
  split
  ·unfold Core.appended; split
   ·exact Nat.le_add_right _ _
   ·split
    ·exact Nat.le_add_right _ _
    ·simp only; split
     ·exact post_out _ _
     ·split
      ·exact post_out _ _
      ·exact post_out _ _
  split
  ·unfold Core.acked; split
   ·exact Nat.le_add_right _ _
   ·simp only; split
    ·exact send_out7 _ _
    ·split
     ·exact Nat.le_add_right _ _
     ·have h1 : (d.setPeer m.from' ⟨m.index + 1, m.index, 0⟩).look.out = d.out := look_out _
      split
      ·have h2 := send_out7 (d.setPeer m.from' ⟨m.index + 1, m.index, 0⟩).look m.from'
       rw [h1] at h2; exact h2
      ·rw [h1]; exact Nat.le_add_right _ _
  split
  ·unfold Core.installed; split
   ·exact Nat.le_add_right _ _
   ·simp only; split
    ·exact post_out _ _
    ·have h1 : (if m.off = 0 then { d.hear m.from' with way := some ⟨m.index, m.at', m.size, []⟩ } else d.hear m.from' : Core).out = d.out := by split <;> rfl
     generalize (if m.off = 0 then { d.hear m.from' with way := some ⟨m.index, m.at', m.size, []⟩ } else d.hear m.from' : Core) = e at h1
     rw [← h1]
     split
     ·exact post_out _ _
     ·split
      ·exact post_out _ _
      ·split
       ·split
        ·exact post_out _ _
        ·exact post_out _ _
       ·split
        ·exact post_out _ _
        ·exact post_out _ _
  split
  ·unfold Core.more; simp only; split
   ·exact Nat.le_add_right _ _
   ·exact send_out7 _ _
  ·exact Nat.le_add_right _ _
theorem propose_out (c : Core) (data : List (List UInt8)) : (c.propose data).1.out.length ≤ c.out.length + 7 := by
 unfold Core.propose
 split
 ·exact Nat.le_add_right _ _
 ·split
  ·exact Nat.le_add_right _ _
  ·exact own_out _
theorem change_out (c : Core) (n : Int) : (c.change n).1.out.length ≤ c.out.length + 7 := by
 unfold Core.change
 simp only
 split
 ·exact Nat.le_add_right _ _
 ·exact own_out _
theorem compact_out (c : Core) (n : Int) (s : List UInt8) : (c.compact n s).1.out.length ≤ c.out.length + 7 := by
 unfold Core.compact
 split
 ·exact Nat.le_add_right _ _
 ·exact Nat.le_add_right _ _
end Go.Raft
end
section
namespace Go.Proofs.Ytbiidlmhadihlaa
open Go.AM Go.Raft
section
theorem pl10 : dPl 10 = some (.spec (Sp.told.run Try.prog)) := by kernel_rfl
theorem g10 (S : St) : Does Try.prog dPl dLv 10 [] S (fun u S' => u = .bool true ∧ S' = S) := Does.step pl10 (v := .bool true) (S' := S) rfl ⟨rfl, rfl⟩
theorem entry_neq (a b : Entry) : binV Try.prog .neq 59 (.agg (encE a)) (.agg (encE b)) = .ok (.bool (!decide (a = b))) := by
 have h := eq59 a.term a.members a.data b.term b.members b.data
 simp only [binV, encE, h]
 congr 3
 obtain ⟨x, y, z⟩ := a
 obtain ⟨x', y', z'⟩ := b
 simp only [Entry.mk.injEq, text_dec]
 by_cases h1 : x = x' <;> by_cases h2 : y = y' <;> by_cases h3 : z = z' <;> simp [h1, h2, h3]
theorem entry_gd (a b : List V) : guardP Try.prog 59 (.agg a) (.agg b) = true := congrFun (congrFun gd59 a) b
structure Seen (S : St) (c d : Core) (b1 b2 b3 : Nat) (la lb : V) : Prop where
 h1 : S.heap.get b1 = some (.row 0 7 [cellsH c.h la])
 h2 : S.heap.get b2 = some (.row 0 6 [viewV c.view])
 h3 : S.heap.get b3 = some (.row 0 7 [cellsH d.h lb])
 la : Sl S 3 la (c.h.log.map encE)
 lb : Sl S 3 lb (d.h.log.map encE)
theorem Seen.ext {S S' : St} {c d : Core} {b1 b2 b3 : Nat} {la lb : V} (h : Seen S c d b1 b2 b3 la lb) (x : Ext S S') : Seen S' c d b1 b2 b3 la lb :=
 ⟨x.old _ _ h.h1, x.old _ _ h.h2, x.old _ _ h.h3, h.la.ext x, h.lb.ext x⟩
section
variable {S : St} {a : Nat} {h : Hard} {lv : V} (g : S.heap.get a = some (.row 0 7 [cellsH h lv]))
include g
theorem hr_term : loadW none (.ptr a 0 0 0) S = .ok (.int .i64 h.term) := by rw [load_one _ _ _ _ _ (row_get g)]; rfl
theorem hr_vote : loadW none (.ptr a 0 0 1) S = .ok (.int .i64 h.vote) := by rw [load_one _ _ _ _ _ (row_get g)]; rfl
theorem hr_base : loadW none (.ptr a 0 0 2) S = .ok (.int .i64 h.base) := by rw [load_one _ _ _ _ _ (row_get g)]; rfl
theorem hr_log : loadW none (.ptr a 0 0 6) S = .ok lv := by rw [load_one _ _ _ _ _ (row_get g)]; rfl
theorem hr_all : loadW (some 7) (.ptr a 0 0 0) S = .ok (.agg (cellsH h lv)) := by rw [load_one _ _ _ _ _ (row_get g)]; exact partW_all _ _ rfl
end
section
variable {S : St} {a : Nat} {v : View} (g : S.heap.get a = some (.row 0 6 [viewV v]))
include g
theorem vr_commit : loadW none (.ptr a 0 0 2) S = .ok (.int .i64 v.commit) := by rw [load_one _ _ _ _ _ (row_get g)]; rfl
theorem vr_last : loadW none (.ptr a 0 0 3) S = .ok (.int .i64 v.last) := by rw [load_one _ _ _ _ _ (row_get g)]; rfl
end
theorem at_num {c : Core} (I : Raft.Inv c) {n : Int} (h1 : c.h.base < n) (h2 : n ≤ c.last) : ∃ (j : Nat) (x : Entry), n - c.h.base - 1 = (j : Int) ∧ c.h.log[j]? = some x ∧ c.at n = some x ∧ wr .i64 (n - c.h.base) = n - c.h.base ∧ wr .i64 (n - c.h.base - 1) = (j : Int) := by
 have hb := I.h.b0
 have hr := last_range I.h
 obtain ⟨x, hx⟩ := log_get (h := c.h) (n := n) h1 h2
 have hj : n - c.h.base - 1 = (((n - c.h.base - 1).toNat : Nat) : Int) := by omega
 refine ⟨(n - c.h.base - 1).toNat, x, hj, hx, hx, wr64 (by omega) (by omega), ?_⟩
 rw [wr64 (by omega) (by omega)]; exact hj
theorem j4b {c d : Core} (I : Raft.Inv c) (J : Raft.Inv d) (kp : Keeps c d) {S : St} {b1 b2 b3 : Nat} {la lb : V} (sn : Seen S c d b1 b2 b3 la lb) (x3 : V) (p9 x8 : V) {i : Nat} (hi : i < 100) {X : Type} {out : Nat → KS → X → St → An} {Q : Turn X → Prop}
  (hQ : ∀ S', Ext S S' → Q (.next [x8, .int .i64 ((i + 1 : Nat) : Int)] S')) :
  OkL out (fun k K again => m4_j2 (callD Try.prog dPl dLv k) k K again x3 x8 p9 (.int .i64 (i : Int)) (.ptr b1 0 0 0) (.ptr b2 0 0 0) (.ptr b3 0 0 0) S) Q := by
 have hb := I.h.b0
 have hb' := J.h.b0
 have hr := last_range I.h
 have s1 := I.s1
 have s1' := J.s1
 have hks := kp.sure
 have hkb := kp.base
 have hm : max c.h.base d.h.base = d.h.base := by omega
 have hbd : d.h.base ≤ d.last := by unfold Core.last lastH; omega
 have hr' := last_range J.h
 have hw0 : wr .i64 (d.h.base + 1) = d.h.base + 1 := wr64 (by omega) (by omega)
 have hwi : wr .i64 ((i : Int) + 1) = ((i + 1 : Nat) : Int) := small_next hi (by decide)
 simp only [m4_j2, fa24_2, adv_ptr, Nat.reduceAdd, dR_ok, ld3, hr_base sn.h1, hr_base sn.h3, maxV_int, hm, bin_add, hw0]
 refine OkL.loop (F := fun k K ag => m4_l1 (callD Try.prog dPl dLv k) k K ag x3 p9 (.int .i64 (i : Int)) (.ptr b1 0 0 0) (.ptr b2 0 0 0) (.ptr b3 0 0 0)) (ρ := Unit) (α := Nat) (Y := Unit) (List.range (c.sure - d.h.base).toNat) (step := fun _ _ => .inr ()) (fin := id) (s := ())
  (out2 := fun k K ag _ S' => ag [x8, .int .i64 ((i + 1 : Nat) : Int)] S')
  (fun j _ vs S' => vs = [x8, .int .i64 (d.h.base + 1 + j)] ∧ Ext S S')
  (fun _ _ S' => Ext S S') ?_ ?_ ⟨by simp, Ext.refl S⟩ (fun _ S' x => OkL.next (hQ S' x))
 ·rintro j j' _ vs S' ⟨rfl, x⟩ hj
  have hjl := (List.getElem?_eq_some_iff.1 hj).1
  rw [List.length_range] at hjl
  have hn1 : d.h.base < d.h.base + 1 + (j : Int) := by omega
  have hn2 : d.h.base + 1 + (j : Int) ≤ c.sure := by omega
  have hnx : d.h.base + 1 + ((j + 1 : Nat) : Int) = d.h.base + 1 + (j : Int) + 1 := by push_cast; omega
  generalize d.h.base + 1 + (j : Int) = n at hn1 hn2 hnx
  obtain ⟨j1, y1, e1, q1, a1, u1, v1⟩ := at_num I (n := n) (by omega) (by omega)
  obtain ⟨j2, y2, e2, q2, a2, u2, v2⟩ := at_num J (n := n) hn1 (by omega)
  have hy : y1 = y2 := by
   have := kp.logs n hn1 hn2
   rw [a1, a2] at this; exact Option.some.inj this
  have hwn : wr .i64 (n + 1) = n + 1 := wr64 (by omega) (by omega)
  have sn' := sn.ext x
  have xb : Ext S' (⟨S'.next + 19, S'.heap⟩ : St) := (Ext.refl S').bump 19
  obtain ⟨p1, hp1, at1, _, _⟩ := sn'.la.elem q1
  obtain ⟨p2, hp2, at2, _, _⟩ := sn'.lb.elem q2
  have la1 : loadW (some 3) p1 S' = .ok (.agg (encE y1)) := by rw [at1.load0]; exact partW_all _ _ rfl
  have la2 : loadW (some 3) p2 S' = .ok (.agg (encE y2)) := by rw [at2.load0]; exact partW_all _ _ rfl
  have hcm : c.view.commit = c.sure := rfl
  refine ⟨0, .inr ⟨(), [x8, .int .i64 (d.h.base + 1 + ((j + 1 : Nat) : Int))], (⟨S'.next + 19, S'.heap⟩ : St), rfl, ⟨rfl, x.trans xb⟩, fun k K ag again _ => ?_⟩⟩
  simp only [m4_l1, unD_cons, fa50_2, fa24_6, fa24_2, adv_ptr, Nat.reduceAdd, dR_ok, ld3, ld22, ld59, loadW_bump, vr_commit sn'.h2, hcm, bin_leq, hn2, decide_true, pickD_true, hr_log sn'.h1, hr_log sn'.h3, hr_base sn'.h1, hr_base sn'.h3, bin_sub, u1, v1, u2, v2, ix22, hp1, hp2, la1, la2, entry_gd, dIf_true, entry_neq, hy, Bool.not_true, pickD_false, bin_add, hwn, hnx]
 ·rintro _ vs S' ⟨rfl, x⟩
  have sn' := sn.ext x
  have hcm : c.view.commit = c.sure := rfl
  have hle : ¬ d.h.base + 1 + ((List.range (c.sure - d.h.base).toNat).length : Int) ≤ c.sure := by rw [List.length_range]; omega
  refine ⟨0, (), S', x, fun k K ag again _ => ?_⟩
  simp only [m4_l1, unD_cons, fa50_2, adv_ptr, Nat.reduceAdd, dR_ok, ld3, vr_commit sn'.h2, hcm, bin_leq, hle, decide_false, pickD_false, bin_add, hwi]
end
theorem two_vars {S : St} (w : WF S) (h : Hard) (lv : V) (v : View) (hl : lv.one = true) :
  ∃ S1 S2 S3 S4, newBlk none S (.row 0 7 [zH]) = .ok (S.next, S1) ∧ newBlk none S1 (.row 0 6 [[.int .i64 0,.int .i64 0,.int .i64 0,.int .i64 0,.int .i64 0,.int .i64 0]]) = .ok (S.next + 1, S2) ∧ storeW 7 (.ptr S.next 0 0 0) (.agg (cellsH h lv)) S2 = .ok S3 ∧ storeW 6 (.ptr (S.next + 1) 0 0 0) (.agg (viewV v)) S3 = .ok S4 ∧
   Ext S S4 ∧ S4.heap.get S.next = some (.row 0 7 [cellsH h lv]) ∧ S4.heap.get (S.next + 1) = some (.row 0 6 [viewV v]) := by
 obtain ⟨S1, hn1, x1, hg1, hx1⟩ := nb w 7 zH
 have w1 := x1.wf w
 obtain ⟨S2, hn2, x2, hg2, hx2⟩ := nb w1 6 [.int .i64 0,.int .i64 0,.int .i64 0,.int .i64 0,.int .i64 0,.int .i64 0]
 rw [hx1] at hn2 hg2
 have x02 := x1.trans x2
 have w2 := x02.wf w
 have g2 := x2.old _ _ hg1
 have e3 := (cell_put g2 rfl (show (cellsH h lv).length = 7 from rfl) (cellsH_one h hl)).1
 have x3 : Ext S (⟨S2.next, S2.heap.put S.next (.row 0 7 [cellsH h lv])⟩ : St) := x02.set (Nat.le_refl _) (w2 _ _ g2) w _
 have g3 : (⟨S2.next, S2.heap.put S.next (.row 0 7 [cellsH h lv])⟩ : St).heap.get S.next = some (.row 0 7 [cellsH h lv]) := Tr.get_put_sameB _ _ _ trivial
 have g3' : (⟨S2.next, S2.heap.put S.next (.row 0 7 [cellsH h lv])⟩ : St).heap.get (S.next + 1) = some (.row 0 6 [[.int .i64 0,.int .i64 0,.int .i64 0,.int .i64 0,.int .i64 0,.int .i64 0]]) := by
  show (S2.heap.put _ _).get _ = _
  rw [Tr.get_put_neB _ _ _ _ trivial (by omega)]; exact hg2
 generalize (⟨S2.next, S2.heap.put S.next (.row 0 7 [cellsH h lv])⟩ : St) = S3 at e3 x3 g3 g3'
 have w3 := x3.wf w
 have e4 := (cell_put g3' rfl (show (viewV v).length = 6 from rfl) rfl).1
 have x4 : Ext S (⟨S3.next, S3.heap.put (S.next + 1) (.row 0 6 [viewV v])⟩ : St) := x3.set (by omega) (w3 _ _ g3') w _
 refine ⟨S1, S2, S3, _, hn1, hn2, e3, e4, x4, ?_, Tr.get_put_sameB _ _ _ trivial⟩
 show (S3.heap.put _ _).get _ = _
 rw [Tr.get_put_neB _ _ _ _ trivial (by omega)]; exact g3
theorem j4a {c d : Core} (I : Raft.Inv c) (J : Raft.Inv d) (kp : Keeps c d) {S : St} (w : WF S) {a : Nat} {O : Nat → Prop} (hd : CoreIn S a d O) {b1 b2 : Nat} {la : V} (h1 : S.heap.get b1 = some (.row 0 7 [cellsH c.h la])) (h2 : S.heap.get b2 = some (.row 0 6 [viewV c.view])) (hla : Sl S 3 la (c.h.log.map encE))
  (x3 x8 : V) {i : Nat} (hi : i < 100) {X : Type} {out : Nat → KS → X → St → An} {Q : Turn X → Prop}
  (hQ : ∀ S', Ext S S' → Q (.next [x8, .int .i64 ((i + 1 : Nat) : Int)] S')) :
  OkL out (fun k K again => m4_j1 (callD Try.prog dPl dLv k) k K again x3 x8 (.ptr a 0 0 0) (.int .i64 (i : Int)) (.ptr b1 0 0 0) (.ptr b2 0 0 0) S) Q := by
 have hrl := last_range J.h
 unfold m4_j1
 refine OkL.call (g14 w hd J.h) fun u S1 ⟨x1, lb, e1, o1⟩ => ?_
 subst e1
 have w1 := x1.wf w
 refine (g17 w1 (hd.ext w x1) J.h).callL fun S2 x2 => ?_
 have w2 := x2.wf w1
 obtain ⟨S3, S4, S5, S6, q3, q4, q5, q6, x6, g7, g8⟩ := two_vars w2 d.h lb d.view o1.sl.one
 have x06 := (x1.trans x2).trans x6
 have w6 := x06.wf w
 have l6 : Sl S6 3 lb (d.h.log.map encE) := o1.sl.ext (x2.trans x6)
 have sn : Seen S6 c d b1 b2 S2.next la lb := ⟨x06.old _ _ h1, x06.old _ _ h2, g7, hla.ext x06, l6⟩
 have kt := kp.term
 have ks := kp.sure
 have kb := kp.base
 have js := J.s1
 have hll := J.h.ll
 have hw : wr .i64 (d.h.base + d.h.log.length) = d.last := wr64 (by unfold Core.last lastH at hrl; omega) (by unfold Core.last lastH at hrl; omega)
 have d1 : ¬ d.h.term < c.h.term := by omega
 have d2 : ¬ d.view.commit < c.view.commit := by show ¬ d.sure < c.sure; omega
 have d3 : ¬ d.last < d.view.commit := by show ¬ d.last < d.sure; omega
 have d4 : d.view.last = d.last := rfl
 have d5 : ¬ d.h.base < c.h.base := by omega
 have hright : rightH d.h = true := (rightH_iff _).2 J.h
 have fin : ∀ S7, Ext S6 S7 → OkL out (fun k K again => m4_j2 (callD Try.prog dPl dLv k) k K again x3 x8 (.ptr a 0 0 0) (.int .i64 (i : Int)) (.ptr b1 0 0 0) (.ptr b2 0 0 0) (.ptr S2.next 0 0 0) S7) Q := fun S7 x7 =>
  j4b I J kp (sn.ext x7) x3 _ x8 hi fun S' x' => hQ S' (x06.trans (x7.trans x'))
 simp only [q3, q4, q5, q6, dR_ok, st24, st50, fa24_0, fa24_1, fa24_2, fa24_6, fa50_2, fa50_3, adv_ptr, Nat.reduceAdd, ld3, ld22, ld24, hr_term sn.h1, hr_term sn.h3, hr_vote sn.h1, hr_vote sn.h3, hr_base sn.h1, hr_base sn.h3, hr_log sn.h3, hr_all sn.h3, vr_commit sn.h2, vr_commit g8, vr_last g8, len22, l6.lenI, bin_lss, bin_gtr, bin_neq, bin_eql, bin_add, hw, guard_int, dIf_true, d1, d2, d3, d4, decide_false, decide_true, Bool.not_true, pickD_false]
 have hv : c.h.term = d.h.term → c.h.vote ≠ -1 → d.h.vote = c.h.vote := fun e e2 => kp.vote e.symm e2
 have tail : ∀ {G : Nat → KS → Ag → V → St → An}, (∀ S7, Ext S6 S7 → OkL out (fun k K again => G k K again (.bool true) S7) Q) → OkL out (fun k K again => callD Try.prog dPl dLv k 23 [.agg (cellsH d.h lb)] S6 (fun v S => G k K again v S)) Q := fun hG => by
  have g := g23 d.h lb S6 w6 l6 (by omega)
  rw [hright] at g
  exact g.callL fun S7 x7 => hG S7 x7
 have rest : ∀ S7, Ext S6 S7 → loadW none (.ptr S2.next 0 0 2) S7 = .ok (.int .i64 d.h.base) ∧ loadW none (.ptr b1 0 0 2) S7 = .ok (.int .i64 c.h.base) := fun S7 x7 => ⟨hr_base (sn.ext x7).h3, hr_base (sn.ext x7).h1⟩
 refine OkL.pickP (fun e2 => OkL.pickN (fun e3 => OkL.pickN (fun e4 => absurd (hv e2.symm e3) e4) (fun e4 => ?_)) (fun e3 => ?_)) (fun e2 => ?_)
 all_goals
  refine tail fun S7 x7 => ?_
  obtain ⟨r1, r2⟩ := rest S7 x7
  simp only [un_not, dR_ok, Bool.not_true, pickD_false, r1, r2, bin_lss, d5, decide_false]
  exact fin S7 x7
section
theorem ptr_eq28 (a b c d : Nat) : binV Try.prog .eql 28 (.ptr a b c d) .nilp = .ok (.bool false) := by
 have h : (fun a b c d => binV Try.prog .eql 28 (.ptr a b c d) .nilp) = fun _ _ _ _ => .ok (.bool false) := by kernel_rfl
 exact congrFun (congrFun (congrFun (congrFun h a) b) c) d
theorem nil_eq28 : binV Try.prog .eql 28 .nilp .nilp = .ok (.bool true) := by kernel_rfl
theorem ptr_gd28 (a b c d : Nat) : guardP Try.prog 28 (.ptr a b c d) .nilp = true := by
 have h : (fun a b c d => guardP Try.prog 28 (.ptr a b c d) .nilp) = fun _ _ _ _ => true := by kernel_rfl
 exact congrFun (congrFun (congrFun (congrFun h a) b) c) d
theorem nil_gd28 : guardP Try.prog 28 .nilp .nilp = true := by kernel_rfl
theorem told_end {S : St} {Q : V → St → Prop} (h : Q (.bool true) S) : Ok (fun k K => callD Try.prog dPl dLv k 10 [] S fun t S' => K t S') Q :=
 Does.call (g10 S) fun u S' ⟨e, e2⟩ => by subst e; subst e2; exact Ok.ret h
section
variable {S : St} {p : V} {q : Ask} (h : At S p (encA q))
include h
theorem ak_kind : advW 0 p = .ok (adv 0 p) ∧ loadW none (adv 0 p) S = .ok (.int .i64 q.kind) := ⟨h.advW 0, by rw [h.load]; rfl⟩
theorem ak_n : advW 1 p = .ok (adv 1 p) ∧ loadW none (adv 1 p) S = .ok (.int .i64 q.n) := ⟨h.advW 1, by rw [h.load]; rfl⟩
theorem ak_m : advW 2 p = .ok (adv 2 p) ∧ loadW (some 13) (adv 2 p) S = .ok (.agg (cellsL q.m q.ev)) := ⟨h.advW 2, by rw [h.load]; rfl⟩
theorem ak_d : advW 15 p = .ok (adv 15 p) ∧ loadW none (adv 15 p) S = .ok q.dv := ⟨h.advW 15, by rw [h.load]; rfl⟩
theorem ak_all : loadW (some 16) p S = .ok (.agg (encA q)) := by rw [h.load0]; exact partW_all _ _ rfl
end
def askM (c : Core) (q : Ask) : Core := if q.kind = 1 then c.tick q.n else if q.kind = 2 then c.take q.m else if q.kind = 3 then (c.propose q.data).1 else if q.kind = 4 then (c.change q.n).1 else if q.kind = 5 then (c.compact q.n [115]).1 else c
theorem askM_ok {c : Core} (I : Raft.Inv c) (q : Ask) : (Raft.Inv (askM c q) ∧ Keeps c (askM c q)) ∧ (askM c q).out.length ≤ c.out.length + 7 := by
 unfold askM
 split
 ·exact ⟨I.tick _, tick_out _ _⟩
 split
 ·exact ⟨I.take _, take_out _ _⟩
 split
 ·exact ⟨I.propose _, propose_out _ _⟩
 split
 ·exact ⟨I.change _, change_out _ _⟩
 split
 ·exact ⟨I.compact _ _, compact_out _ _ _⟩
 ·exact ⟨⟨I, Keeps.refl c⟩, Nat.le_add_right _ _⟩
structure KeepI (a i : Nat) (S : St) : Prop where
 wf : WF S
 core : ∃ c O, CoreIn S a c O ∧ Raft.Inv c ∧ c.out.length ≤ 7 * i
theorem l4 (qs : List Ask) (av : V) {a : Nat} {S : St} (K0 : KeepI a 0 S) (hq : ∀ q, q ∈ qs → AskOK q) (hs : ∀ S, Sl S 16 av (qs.map encA)) (hb : blkOf av = none) :
  Ok (fun k K => loopD k [.bool false, .int .i64 0] S (m4_l0 (callD Try.prog dPl dLv k) k K av (.ptr a 0 0 0))) (fun u S' => u = .bool true) := by
 refine Ok.loopL (F := fun k K => m4_l0 (callD Try.prog dPl dLv k) k K av (.ptr a 0 0 0)) (ρ := Unit) (α := Ask) (X := Unit) (qs.take 60) (step := fun _ _ => .inr ()) (fin := id) (s := ())
  (out := fun k K _ S' => callD Try.prog dPl dLv k 10 [] S' fun t S'' => K t S'')
  (fun i _ vs S' => vs = [.bool false, .int .i64 (i : Int)] ∧ KeepI a i S')
  (fun _ _ _ => True) ?_ ?_ ⟨rfl, K0⟩ (fun _ S' _ => told_end rfl)
 ·rintro i q _ vs S1 ⟨rfl, w1, c, O, in1, I, hout⟩ hi
  have hil := (List.getElem?_eq_some_iff.1 hi).1
  rw [List.length_take] at hil
  have hi60 : i < 60 := by omega
  have hiq : i < qs.length := by omega
  have hi' : qs[i]? = some q := by rw [List.getElem?_take, if_pos hi60] at hi; exact hi
  have ok := hq q (List.mem_of_getElem? hi')
  have hlt : (i : Int) < (qs.length : Int) := Int.ofNat_lt.2 hiq
  have hlt2 : (i : Int) < 60 := Int.ofNat_lt.2 hi60
  have hwi : wr .i64 ((i : Int) + 1) = ((i + 1 : Nat) : Int) := small_next hi60 (by decide)
  obtain ⟨p, hp, at1, _, _⟩ := (hs S1).elem hi'
  have hol : c.out.length ≤ 999990 := by omega
  have hnx : ∀ d : Core, d.out.length ≤ c.out.length + 7 → d.out.length ≤ 7 * (i + 1) := fun d h => by omega
  simp only [m4_l0, unD_cons, len25, (hs S1).lenI, dR_ok, bin_lss, hlt, hlt2, decide_true, pickD_true, ix25, hp, ld40, ak_all at1]
  refine OkL.call (g13 q S1 w1 ok) fun u S2 ⟨x2, hu⟩ => ?_
  have w2 := x2.wf w1
  have in2 := in1.ext w1 x2
  have skip : OkL (fun k K (_ : Unit) S' => callD Try.prog dPl dLv k 10 [] S' fun t S'' => K t S'') (fun k K again => again [.bool false, .int .i64 ((i + 1 : Nat) : Int)] S2) (Round (fun (_ : Unit) (_ : Ask) => (.inr () : Unit ⊕ Unit)) (fun i _ vs S' => vs = [.bool false, .int .i64 (i : Int)] ∧ KeepI a i S') (fun (_ _ : Unit) (_ : St) => True) i () q) :=
   OkL.next ⟨(), rfl, rfl, w2, c, O, in2, I, hnx c (Nat.le_add_right _ _)⟩
  rcases hu with ⟨rfl, h20, h130⟩ | rfl
  ·simp only [un_not, dR_ok, Bool.not_true, pickD_false]
   refine OkL.call (g14 w2 in2 I.h) fun u S3 ⟨x3, la, e3, o3⟩ => ?_
   subst e3
   have w3 := x3.wf w2
   refine (g17 w3 (in2.ext w2 x3) I.h).callL fun S4 x4 => ?_
   have w4 := x4.wf w3
   obtain ⟨T1, T2, T3, S5, q3, q4, q5, q6, x5, g7, g8⟩ := two_vars w4 c.h la c.view o3.sl.one
   have x25 := (x3.trans x4).trans x5
   have w5 := x25.wf w2
   have in5 := in2.ext w2 x25
   have la5 : Sl S5 3 la (c.h.log.map encE) := o3.sl.ext (x4.trans x5)
   obtain ⟨p', hp', at5, _, _⟩ := (hs S5).elem hi'
   rw [hp] at hp'
   cases hp'
   have no1 : ¬ O S4.next := fun hO => by have := core_lt w4 (in2.ext w2 (x3.trans x4)) _ hO; omega
   have no2 : ¬ O (S4.next + 1) := fun hO => by have := core_lt w4 (in2.ext w2 (x3.trans x4)) _ hO; omega
   have no3 : ∀ y, blkOf la = some y → ¬ O y := fun y hy hO => by
    have h1 := (Own_lt o3 hy).1
    have h2 := core_lt w2 in2 _ hO
    omega
   obtain ⟨⟨J, kp⟩, ho⟩ := askM_ok I q
   have fin : ∀ (S6 : St) (O' : Nat → Prop), WF S6 → CoreIn S6 a (askM c q) O' → Mv O S5 O' S6 → OkL (fun k K (_ : Unit) S' => callD Try.prog dPl dLv k 10 [] S' fun t S'' => K t S'') (fun k K again => m4_j1 (callD Try.prog dPl dLv k) k K again av (.bool false) (.ptr a 0 0 0) (.int .i64 (i : Int)) (.ptr S4.next 0 0 0) (.ptr (S4.next + 1) 0 0 0) S6)
     (Round (fun (_ : Unit) (_ : Ask) => (.inr () : Unit ⊕ Unit)) (fun i _ vs S' => vs = [.bool false, .int .i64 (i : Int)] ∧ KeepI a i S') (fun (_ _ : Unit) (_ : St) => True) i () q) := fun S6 O' w6 in6 m6 =>
    j4a I J kp w6 in6 (m6.keep _ _ no1 g7) (m6.keep _ _ no2 g8) (m6.sl la5 no3) av (.bool false) (Nat.lt_of_lt_of_le hi60 (by decide)) fun S7 x7 => ⟨(), rfl, rfl, x7.wf w6, _, _, in6.ext w6 x7, J, hnx _ ho⟩
   have hkd := ak_kind at5
   have hkn := ak_n at5
   have hkm := ak_m at5
   have hkk := ak_d at5
   have ap : Apart S5 O q.m q.ev := ⟨ok.e S5, fun y hy => by rw [ok.eb] at hy; cases hy⟩
   simp only [q3, q4, q5, q6, dR_ok, st24, st50, fa40_0, fa40_1, fa40_2, fa40_3, ix25, hp, hkd.1, hkd.2, hkn.1, hkn.2, hkm.1, hkm.2, hkk.1, hkk.2, ld3, ld37, ld38, guard_int, dIf_true, bin_eql]
   refine OkL.pickP (fun e => ?_) (fun e => ?_)
   ·refine (g18 q.n w5 in5 I hol).callL w5 fun S6 O6 w6 in6 m6 => fin S6 O6 w6 ?_ m6
    unfold askM; rw [if_pos e]; exact in6
   refine OkL.pickP (fun e2 => ?_) (fun e2 => ?_)
   ·refine (g19 q.m q.ev w5 in5 I ap hol).callL w5 fun S6 O6 w6 in6 m6 => fin S6 O6 w6 ?_ m6
    unfold askM; rw [if_neg e, if_pos e2]; exact in6
   refine OkL.pickP (fun e3 => ?_) (fun e3 => ?_)
   ·refine (g20 q.data q.dv w5 in5 I (ok.d S5) (fun y hy => by rw [ok.db] at hy; cases hy) hol).callL w5 fun S6 O6 w6 in6 m6 => fin S6 O6 w6 ?_ m6
    unfold askM; rw [if_neg e, if_neg e2, if_pos e3]; exact in6
   refine OkL.pickP (fun e4 => ?_) (fun e4 => ?_)
   ·refine (g21 q.n w5 in5 I hol).callL w5 fun S6 O6 w6 in6 m6 => fin S6 O6 w6 ?_ m6
    unfold askM; rw [if_neg e, if_neg e2, if_neg e3, if_pos e4]; exact in6
   refine OkL.pickP (fun e5 => ?_) (fun e5 => ?_)
   ·refine (g22 q.n [115] w5 in5 I).callL w5 fun S6 O6 w6 in6 m6 => fin S6 O6 w6 ?_ m6
    unfold askM; rw [if_neg e, if_neg e2, if_neg e3, if_neg e4, if_pos e5]; exact in6
   ·refine fin S5 O w5 ?_ (Mv.refl O S5)
    unfold askM; rw [if_neg e, if_neg e2, if_neg e3, if_neg e4, if_neg e5]; exact in5
  ·simp only [un_not, dR_ok, Bool.not_false, pickD_true, bin_add, hwi]
   exact skip
 ·rintro _ vs S1 ⟨rfl, w1, _⟩
  refine ⟨(), trivial, fun k K again => ?_⟩
  have hn : (qs.take 60).length = min 60 qs.length := List.length_take
  by_cases h1 : ((qs.take 60).length : Int) < (qs.length : Int)
  ·have h2 : ¬ ((qs.take 60).length : Int) < 60 := by omega
   simp only [m4_l0, unD_cons, len25, (hs S1).lenI, dR_ok, bin_lss, h1, h2, decide_true, decide_false, pickD_true, pickD_false]
  ·simp only [m4_l0, unD_cons, len25, (hs S1).lenI, dR_ok, bin_lss, h1, decide_false, pickD_false]
theorem g4 (id draw : Int) (h : Hard) (lv av : V) (qs : List Ask) (S : St) (w : WF S) (hs : Sl S 3 lv (h.log.map encE)) (hl : h.log.length ≤ 9223372036854775807) (hq : ∀ q, q ∈ qs → AskOK q) (hqs : ∀ S, Sl S 16 av (qs.map encA)) (hb : blkOf av = none) :
  Does Try.prog dPl dLv 4 [.int .i64 id, .agg (cellsH h lv), .int .i64 draw, av] S (fun u S' => u = .bool true) := by
 have ho := cellsH_one h hs.one
 have hln : (cellsH h lv).length = 7 := rfl
 obtain ⟨S1, hn1, x1, hg1, hnx1⟩ := nb w 7 (cellsH h lv)
 have w1 := x1.wf w
 have va : ∀ {T : St}, T.heap.get S.next = some (.row 0 7 [cellsH h lv]) → loadW (some 7) (.ptr S.next 0 0 0) T = .ok (.agg (cellsH h lv)) := fun hg => by rw [load_one _ _ _ _ _ (row_get hg)]; exact partW_all _ _ hln
 refine e4 ?_
 simp only [m4, agg_cells, ho, hln, dIf_true, hn1, dR_ok, ld24, va hg1]
 refine Does.call (g9 h lv S1 w1 (hs.ext x1)) fun u S2 ⟨x2, hu⟩ => ?_
 have w2 := x2.wf w1
 have g2 := x2.old _ _ hg1
 rcases hu with ⟨rfl, h40⟩ | rfl
 ·simp only [un_not, dR_ok, Bool.not_true, pickD_false, va g2]
  refine Does.call (g11 id draw h lv S2 w2 (hs.ext (x1.trans x2)) (Nat.le_trans h40 (by decide))) fun u S3 ⟨x3, hn⟩ => ?_
  have w3 := x3.wf w2
  cases hN : newM id h draw with
  | none =>
   rw [hN] at hn
   subst hn
   simp only [tupD_tup, List.getElem?_cons_zero, List.getElem?_cons_succ, dO_ok, nil_gd28, dIf_true, nil_eq28, dR_ok, pickD_true, m4_j0, guard_int, bin_eql, decide_true]
   exact told_end rfl
  | some c =>
   rw [hN] at hn
   obtain ⟨a, O, rfl, inc, _⟩ := hn
   obtain ⟨I, _⟩ := Inv.new hN
   have hd : ¬ ((0 : Int) = 1) := by decide
   simp only [tupD_tup, List.getElem?_cons_zero, List.getElem?_cons_succ, dO_ok, ptr_gd28, dIf_true, ptr_eq28, dR_ok, pickD_false, guard_int, bin_neq, decide_true, Bool.not_true, m4_j0]
   have hout : c.out = [] := by
    unfold newM at hN
    split at hN
    ·cases hN
    ·cases hN; rfl
   exact l4 qs av ⟨w3, c, O, inc, I, by rw [hout]; exact Nat.zero_le _⟩ hq hqs hb
 ·simp only [un_not, dR_ok, Bool.not_false, pickD_true]
  exact told_end rfl
end
end Go.Proofs.Ytbiidlmhadihlaa
end
section
namespace Go.AM
open Go.RowKit Go.ChangeShapes
section
def Gh.all (W : World) : Gh := { Gh.none with pr := fun b => W.heap[b]? }
theorem rel_all (W : World) : Rel (fun i => W.heap[i]?) (Gh.all W) St.empty W.heap :=
 ⟨fun _ _ => ⟨rfl, rfl⟩, fun _ _ h => (by cases h), fun a b h => (by cases h), fun a a' b b' i h => (by cases h), fun i o h => h, fun i o h => h, fun a b i h => (by cases h),
  fun a i h => (by rcases h with ⟨L, h, _⟩ | h <;> cases h), fun a b h => (by cases h)⟩
theorem callsF_true {P : Program} {pl : Plans} (hp : PlansOK P pl) {k : Nat} {f : FuncId} {args : List V} {S' : St} (h : callF P pl k f args St.empty = .ok (.bool true, S')) (W : World) {cs : List Value} (hc : VRs (Gh.all W) args cs) :
  Calls P f cs.toArray W fun e W' => e = .returned (.bool true) ∧ Below W.heap.size W W' := by
 refine ((callF_sound hp k).calls h (rel_all W) hc).mono ?_
 rintro e W' ⟨G', w, rfl, q1, q2⟩
 cases q2
 refine ⟨rfl, q1.same.os, q1.same.tape, q1.same.output, q1.same.size, fun i hi => ?_⟩
 have := Array.getElem?_eq_getElem hi
 rw [this]
 exact q1.rel.fr i _ this
def shapeOK (P : Program) : Nat → TypeId → List V → Prop
 | 0, _, _ => False
 | n + 1, t, xs => match P.underlying t with
  | some .bool => ∃ b, xs = [.bool b]
  | some (.int k) => ∃ i, xs = [.int k i] ∧ (Lit.int k i).wf = true
  | some .string => ∃ s, xs = [.str s] ∧ s.length ≤ maxLen
  | some (.slice e) => xs = [.nils] ∨ ∃ es, xs = [.imm es] ∧ es.length ≤ maxLen ∧ ∀ c, c ∈ es → c.length = P.cellsOf e ∧ shapeOK P n e c
  | some (.struct fs) => xs.length = P.cellsOf t ∧ ∀ f, f ∈ fs.toList → shapeOK P n f.type ((xs.drop f.offset).take (P.cellsOf f.type))
  | _ => False
def tileB (P : Program) : List Field → Nat → Nat → Bool
 | [], o, e => Nat.beq o e
 | f :: l, o, e => Nat.beq f.offset o && tileB P l (o + P.cellsOf f.type) e
def plainB (P : Program) : Nat → TypeId → Bool
 | 0, _ => false
 | d + 1, t => match P.underlying t with
  | some .bool => true
  | some (.int _) => true
  | some .string => true
  | some (.slice e) => Nat.blt 0 (P.cellsOf e) && plainB P d e
  | some (.struct fs) => tileB P fs.toList 0 (P.cellsOf t) && fs.toList.all fun f => plainB P d f.type
  | _ => false
theorem list_of {α : Type} {Q : Nat → α → Prop} : ∀ n, (∀ i, i < n → ∃ a, Q i a) → ∃ l : List α, l.length = n ∧ ∀ i a, l[i]? = some a → Q i a
 | 0, _ => ⟨[], rfl, fun i a h => by simp at h⟩
 | n + 1, h => by
  obtain ⟨l, h1, h2⟩ := list_of n fun i hi => h i (by omega)
  obtain ⟨a, ha⟩ := h n (by omega)
  refine ⟨l ++ [a], by simp [h1], fun i x hx => ?_⟩
  by_cases c : i < n
  ·rw [List.getElem?_append_left (by omega)] at hx; exact h2 i x hx
  ·have hi : i < (l ++ [a]).length := (List.getElem?_eq_some_iff.1 hx).1
   simp only [List.length_append, List.length_cons, List.length_nil] at hi
   have : i = n := by omega
   subst this
   rw [List.getElem?_append_right (by omega), h1, Nat.sub_self] at hx
   cases hx; exact ha
theorem VRss.of {G : Gh} : ∀ {l : List (List V × List Value)}, (∀ x, x ∈ l → VRs G x.1 x.2) → VRss G (l.map (·.1)) (l.map (·.2))
 | [], _ => .nil
 | x :: l, h => .cons _ _ _ _ (h x (List.mem_cons_self ..)) (VRss.of fun y hy => h y (List.mem_cons_of_mem _ hy))
section
variable {H : Type} {enc : TypeId × Value → H} {P : Program} {W : World} {sp : Nat → Bool} {held : Bool}
theorem tiles {n : Nat} {cs : List Value} (ih : ∀ (t : TypeId) (cs : List Value) (x : DataW H × List MemPlace) (d : Nat), plainB P d t = true → DataW.trod enc P W 0 sp held n t cs = some x → ∃ xs, VRs (Gh.all W) xs cs ∧ shapeOK P n t xs) {d : Nat} :
  ∀ (l : List Field) (o e : Nat), tileB P l o e = true → e ≤ cs.length → (∀ f, f ∈ l → plainB P d f.type = true ∧ ∃ x, DataW.trod enc P W 0 sp held n f.type ((cs.drop f.offset).take (P.cellsOf f.type)) = some x) →
   o ≤ e ∧ ∃ xs, VRs (Gh.all W) xs ((cs.drop o).take (e - o)) ∧ ∀ f, f ∈ l → o ≤ f.offset ∧ shapeOK P n f.type ((xs.drop (f.offset - o)).take (P.cellsOf f.type))
 | [], o, e, h, he, _ => by
  have : o = e := Nat.eq_of_beq_eq_true h
  subst this
  exact ⟨Nat.le_refl _, [], by rw [Nat.sub_self]; exact .nil, fun _ h => by cases h⟩
 | f :: l, o, e, h, he, hf => by
  simp only [tileB, Bool.and_eq_true] at h
  have h0 : f.offset = o := Nat.eq_of_beq_eq_true h.1
  obtain ⟨hle, xs, hv, hs⟩ := tiles ih l (o + P.cellsOf f.type) e h.2 he (fun g hg => hf g (List.mem_cons_of_mem _ hg))
  obtain ⟨hpl, x, hx⟩ := hf f (List.mem_cons_self ..)
  obtain ⟨ys, hy, hsy⟩ := ih _ _ _ d hpl hx
  rw [h0] at hy
  have hyl : ys.length = P.cellsOf f.type := by rw [hy.length, List.length_take, List.length_drop]; omega
  refine ⟨by omega, ys ++ xs, ?_, fun g hg => ?_⟩
  ·have : (cs.drop o).take (e - o) = (cs.drop o).take (P.cellsOf f.type) ++ (cs.drop (o + P.cellsOf f.type)).take (e - (o + P.cellsOf f.type)) := by
    rw [← List.drop_drop, ← List.take_add]
    congr 1
    omega
   rw [this]
   exact hy.append hv
  ·rcases List.mem_cons.1 hg with rfl | hg
   ·refine ⟨by omega, ?_⟩
    rw [h0, Nat.sub_self, List.drop_zero, List.take_append_of_le_length (by omega), List.take_of_length_le (by omega)]
    exact hsy
   ·obtain ⟨h1, h2⟩ := hs g hg
    refine ⟨by omega, ?_⟩
    rw [List.drop_append, List.drop_eq_nil_of_le (by omega), List.nil_append, hyl]
    have : g.offset - o - P.cellsOf f.type = g.offset - (o + P.cellsOf f.type) := by omega
    rw [this]
    exact h2
theorem cells_get {a : Addr} {n : Nat} {r : List Value} (h : W.cells? 0 a n = some r) : r.length = n ∧ ∀ k v, r[k]? = some v → W.cell? (a.add k) = some v := by
 unfold World.cells? at h
 rw [if_pos (Nat.zero_le _)] at h
 have hl := mapM_some_length h
 rw [List.length_range] at hl
 refine ⟨hl, fun k v hk => ?_⟩
 have hkn : k < n := by have := (List.getElem?_eq_some_iff.1 hk).1; omega
 have := mapM_some_get h k k (by rw [List.getElem?_range hkn])
 rw [this, hk]
theorem cell_at {a : Addr} {v : Value} (h : W.cell? a = some v) : ∃ c ty fr, W.heap[a.block]? = some (.cells c ty fr) ∧ a.spot = none ∧ c[a.off]? = some v := by
 unfold World.cell? at h
 split at h
 ·rename_i c ty fr hc
  split at h
  ·cases h
  ·rename_i hs
   exact ⟨c, ty, fr, hc, by simpa using hs, h⟩
 ·cases h
theorem add_block (a : Addr) (n : Nat) : (a.add n).block = a.block := by
 unfold Addr.add
 split <;> rfl
theorem add_off (a : Addr) (n : Nat) : (a.add n).off = a.off + n := by
 unfold Addr.add
 split
 ·rename_i h; rw [h, Nat.add_zero]
 ·rfl
theorem add_zero' (a : Addr) : a.add 0 = a := by unfold Addr.add; rw [if_pos rfl]
theorem arg_VR : ∀ (n : Nat) (t : TypeId) (cs : List Value) (x : DataW H × List MemPlace) (d : Nat), plainB P d t = true → DataW.trod enc P W 0 sp held n t cs = some x → ∃ xs, VRs (Gh.all W) xs cs ∧ shapeOK P n t xs
 | 0, t, cs, x, d, _, h => by simp [DataW.trod] at h
 | n + 1, t, cs, x, 0, hp, h => by cases hp
 | n + 1, t, cs, x, d + 1, hp, h => by
  simp only [plainB] at hp
  split at hp
  ·rename_i ht
   obtain ⟨b, rfl, _⟩ := DataW.trod_bool ht h
   exact ⟨[.bool b], .cons _ _ _ _ (.bool b) .nil, by simp only [shapeOK, ht]; exact ⟨b, rfl⟩⟩
  ·rename_i k ht
   obtain ⟨i, rfl, _, hw⟩ := DataW.trod_int ht h
   exact ⟨[.int k i], .cons _ _ _ _ (.int k i) .nil, by simp only [shapeOK, ht]; exact ⟨i, rfl, hw⟩⟩
  ·rename_i ht
   obtain ⟨s, rfl, _, hs⟩ := DataW.trod_string ht h
   refine ⟨[.str s.data.toList], .cons _ _ _ _ (.str s.data.toList) .nil, ?_⟩
   simp only [shapeOK, ht]
   exact ⟨_, rfl, hs⟩
  ·rename_i e ht
   simp only [Bool.and_eq_true, Nat.blt_eq] at hp
   rcases DataW.trod_slice ht h with ⟨rfl, _⟩ | ⟨a, len, cap, elems, rest, m, hm, rfl, _, _, hlc, hcap, hel, hget, _, _⟩
   ·exact ⟨[.nils], .cons _ _ _ _ .nils .nil, by simp only [shapeOK, ht]; exact .inl trivial⟩
   ·have hm : m = n := by omega
    subst hm
    obtain ⟨l, hl, hq⟩ := list_of (Q := fun i (y : List V × List Value) => W.cells? 0 (a.add (i * P.cellsOf e)) (P.cellsOf e) = some y.2 ∧ VRs (Gh.all W) y.1 y.2 ∧ shapeOK P m e y.1) len (fun i hi => by
     have h1 := hget i hi
     rw [List.getElem?_eq_getElem (by omega : i < elems.length)] at h1
     rw [Option.bind_eq_some_iff] at h1
     obtain ⟨r, h2, h3⟩ := h1
     obtain ⟨c, h4, h5⟩ := arg_VR m e r _ d hp.2 h3
     exact ⟨(c, r), h2, h4, h5⟩)
    have hlen : ∀ y, y ∈ l → y.1.length = P.cellsOf e ∧ y.2.length = P.cellsOf e := fun y hy => by
     obtain ⟨i, hi⟩ := List.mem_iff_getElem?.1 hy
     obtain ⟨h1, h2, _⟩ := hq i y hi
     have := (cells_get h1).1
     exact ⟨by rw [h2.length]; exact this, this⟩
    refine ⟨[.imm (l.map (·.1))], .cons _ _ _ _ (.imm _ a len cap (P.cellsOf e) (by rw [List.length_map, hl]) hlc (l.map (·.2)) (VRss.of fun y hy => ?_) (fun c hc => ?_) ?_) .nil, ?_⟩
    ·obtain ⟨i, hi⟩ := List.mem_iff_getElem?.1 hy
     exact (hq i y hi).2.1
    ·obtain ⟨y, hy, rfl⟩ := List.mem_map.1 hc
     exact (hlen y hy).1
    ·by_cases h0 : len = 0
     ·exact .inl h0
     ·right
      obtain ⟨y0, hy0⟩ : ∃ y0, l[0]? = some y0 := ⟨l[0]'(by omega), List.getElem?_eq_getElem (by omega)⟩
      obtain ⟨h1, _, _⟩ := hq 0 y0 hy0
      rw [Nat.zero_mul, add_zero'] at h1
      obtain ⟨hyl, hcell⟩ := cells_get h1
      obtain ⟨v0, hv0⟩ : ∃ v0, y0.2[0]? = some v0 := ⟨y0.2[0]'(by omega), List.getElem?_eq_getElem (by omega)⟩
      have hc0 := hcell 0 v0 hv0
      rw [add_zero'] at hc0
      obtain ⟨c, ty, fr, hh, hs, _⟩ := cell_at hc0
      refine ⟨c, ty, fr, hh, hs, fun i r hr k v hk => ?_⟩
      rw [List.getElem?_map] at hr
      obtain ⟨y, hy, rfl⟩ : ∃ y, l[i]? = some y ∧ y.2 = r := by
       cases hy : l[i]? with
       | none => rw [hy] at hr; cases hr
       | some y => rw [hy] at hr; exact ⟨y, rfl, Option.some.inj hr⟩
      obtain ⟨h2, _, _⟩ := hq i y hy
      obtain ⟨c', ty', fr', hh', _, hv⟩ := cell_at ((cells_get h2).2 k v hk)
      rw [add_block, add_block, hh] at hh'
      rw [add_off, add_off] at hv
      cases hh'
      exact hv
    ·simp only [shapeOK, ht]
     refine .inr ⟨_, rfl, by rw [List.length_map, hl]; omega, fun c hc => ?_⟩
     obtain ⟨y, hy, rfl⟩ := List.mem_map.1 hc
     obtain ⟨i, hi⟩ := List.mem_iff_getElem?.1 hy
     exact ⟨(hlen y hy).1, (hq i y hi).2.2⟩
  ·rename_i fs ht
   simp only [Bool.and_eq_true, List.all_eq_true] at hp
   obtain ⟨xs, m, hm, _, hcl, hxl, hf⟩ := DataW.trod_struct ht h
   have hm : m = n := by omega
   subst hm
   obtain ⟨_, ys, h1, h2⟩ := tiles (enc := enc) (sp := sp) (held := held) (cs := cs) (fun t cs x d => arg_VR m t cs x d) fs.toList 0 (P.cellsOf t) hp.1 (Nat.le_of_eq hcl.symm) (fun f hfm => by
    refine ⟨hp.2 f hfm, ?_⟩
    obtain ⟨i, hi⟩ := List.mem_iff_getElem?.1 hfm
    have hi' : fs[i]? = some f := by simpa using hi
    rw [hf i f hi']
    have : i < xs.length := by
     rw [hxl]
     by_cases c : i < fs.size
     ·exact c
     ·rw [Array.getElem?_eq_none (by omega)] at hi'; cases hi'
    exact ⟨_, List.getElem?_eq_getElem this⟩)
   rw [Nat.sub_zero, List.drop_zero, List.take_of_length_le (by omega)] at h1
   refine ⟨ys, h1, ?_⟩
   simp only [shapeOK, ht]
   refine ⟨by rw [h1.length, hcl], fun f hfm => ?_⟩
   have := (h2 f hfm).2
   rwa [Nat.sub_zero] at this
  ·cases hp
end
end
end Go.AM
end
section
namespace Go.Proofs.Ytbiidlmhadihlaa
open Go.AM Go.Raft
theorem WF_empty : WF St.empty := fun a b h => by cases h
theorem sh_struct {P : Program} {n : Nat} {t : TypeId} {fs : Array Field} {xs : List V} (ht : P.underlying t = some (.struct fs)) (h : shapeOK P n t xs) :
  ∃ m, xs.length = P.cellsOf t ∧ ∀ (i : Nat) (f : Field), fs[i]? = some f → shapeOK P m f.type ((xs.drop f.offset).take (P.cellsOf f.type)) := by
 cases n with
 | zero => exact h.elim
 | succ m =>
  simp only [shapeOK, ht] at h
  exact ⟨m, h.1, fun i f hf => h.2 f (by rw [← Array.getElem?_toList] at hf; exact List.mem_of_getElem? hf)⟩
theorem sh_slice {P : Program} {n : Nat} {t e : TypeId} {xs : List V} (ht : P.underlying t = some (.slice e)) (h : shapeOK P n t xs) :
  ∃ m, xs = [.nils] ∨ ∃ es, xs = [.imm es] ∧ es.length ≤ maxLen ∧ ∀ c, c ∈ es → c.length = P.cellsOf e ∧ shapeOK P m e c := by
 cases n with
 | zero => exact h.elim
 | succ m =>
  simp only [shapeOK, ht] at h
  exact ⟨m, h⟩
theorem c3 : Try.prog.cellsOf 3 = 1 := by kernel_rfl
theorem c4 : Try.prog.cellsOf 4 = 1 := by kernel_rfl
theorem c9 : Try.prog.cellsOf 9 = 1 := by kernel_rfl
theorem c22 : Try.prog.cellsOf 22 = 1 := by kernel_rfl
theorem c24 : Try.prog.cellsOf 24 = 7 := by kernel_rfl
theorem c37 : Try.prog.cellsOf 37 = 13 := by kernel_rfl
theorem c38 : Try.prog.cellsOf 38 = 1 := by kernel_rfl
theorem c40 : Try.prog.cellsOf 40 = 16 := by kernel_rfl
theorem c59 : Try.prog.cellsOf 59 = 3 := by kernel_rfl
theorem list3 {α : Type} {l : List α} (h : l.length = 3) : ∃ a0 a1 a2, l = [a0, a1, a2] := by
 match l, h with
 | [a0, a1, a2], _ => exact ⟨a0, a1, a2, rfl⟩
theorem list7 {α : Type} {l : List α} (h : l.length = 7) : ∃ a0 a1 a2 a3 a4 a5 a6, l = [a0, a1, a2, a3, a4, a5, a6] := by
 match l, h with
 | [a0, a1, a2, a3, a4, a5, a6], _ => exact ⟨a0, a1, a2, a3, a4, a5, a6, rfl⟩
theorem list13 {α : Type} {l : List α} (h : l.length = 13) : ∃ a0 a1 a2 a3 a4 a5 a6 a7 a8 a9 a10 a11 a12, l = [a0, a1, a2, a3, a4, a5, a6, a7, a8, a9, a10, a11, a12] := by
 match l, h with
 | [a0, a1, a2, a3, a4, a5, a6, a7, a8, a9, a10, a11, a12], _ => exact ⟨a0, a1, a2, a3, a4, a5, a6, a7, a8, a9, a10, a11, a12, rfl⟩
theorem list16 {α : Type} {l : List α} (h : l.length = 16) : ∃ a0 a1 a2 a3 a4 a5 a6 a7 a8 a9 a10 a11 a12 a13 a14 a15, l = [a0, a1, a2, a3, a4, a5, a6, a7, a8, a9, a10, a11, a12, a13, a14, a15] := by
 match l, h with
 | [a0, a1, a2, a3, a4, a5, a6, a7, a8, a9, a10, a11, a12, a13, a14, a15], _ => exact ⟨a0, a1, a2, a3, a4, a5, a6, a7, a8, a9, a10, a11, a12, a13, a14, a15, rfl⟩
theorem sh_int {n : Nat} {xs : List V} (h : shapeOK Try.prog n 3 xs) : ∃ i, xs = [.int .i64 i] := by
 cases n with
 | zero => exact h.elim
 | succ m =>
  simp only [shapeOK, Try.underlying3] at h
  obtain ⟨i, h, _⟩ := h
  exact ⟨i, h⟩
theorem sh_bool {n : Nat} {xs : List V} (h : shapeOK Try.prog n 4 xs) : ∃ b, xs = [.bool b] := by
 cases n with
 | zero => exact h.elim
 | succ m =>
  simp only [shapeOK, Try.underlying4] at h
  exact h
theorem sh_str {n : Nat} {xs : List V} (h : shapeOK Try.prog n 9 xs) : ∃ s, xs = [.str s] := by
 cases n with
 | zero => exact h.elim
 | succ m =>
  simp only [shapeOK, Try.underlying9] at h
  obtain ⟨s, h, _⟩ := h
  exact ⟨s, h⟩
theorem list_dec {α : Type} {enc : α → List V} : ∀ {es : List (List V)}, (∀ c, c ∈ es → ∃ a : α, c = enc a) → ∃ l : List α, es = l.map enc
 | [], _ => ⟨[], rfl⟩
 | c :: es, h => by
  obtain ⟨a, ha⟩ := h c (List.mem_cons_self ..)
  obtain ⟨l, hl⟩ := list_dec fun d hd => h d (List.mem_cons_of_mem _ hd)
  exact ⟨a :: l, by rw [ha, hl]; rfl⟩
theorem list_dec2 {α : Type} {enc : α → List V} {p : α → Prop} : ∀ {es : List (List V)}, (∀ c, c ∈ es → ∃ a : α, c = enc a ∧ p a) → ∃ l : List α, es = l.map enc ∧ ∀ a, a ∈ l → p a
 | [], _ => ⟨[], rfl, fun _ h => by cases h⟩
 | c :: es, h => by
  obtain ⟨a, ha, hp⟩ := h c (List.mem_cons_self ..)
  obtain ⟨l, hl, hq⟩ := list_dec2 fun d hd => h d (List.mem_cons_of_mem _ hd)
  exact ⟨a :: l, by rw [ha, hl]; rfl, fun b hb => by
   rcases List.mem_cons.1 hb with rfl | hb
   ·exact hp
   ·exact hq b hb⟩
theorem sh_entry {n : Nat} {xs : List V} (h : shapeOK Try.prog n 59 xs) : ∃ e : Entry, xs = encE e := by
 obtain ⟨m, hl, hf⟩ := sh_struct Try.underlying59 h
 rw [c59] at hl
 have h0 : shapeOK Try.prog m 3 ((xs.drop 0).take (Try.prog.cellsOf 3)) := hf 0 _ rfl
 rw [c3] at h0
 obtain ⟨x0, e0⟩ := sh_int h0
 have h1 : shapeOK Try.prog m 3 ((xs.drop 1).take (Try.prog.cellsOf 3)) := hf 1 _ rfl
 rw [c3] at h1
 obtain ⟨x1, e1⟩ := sh_int h1
 have h2 : shapeOK Try.prog m 9 ((xs.drop 2).take (Try.prog.cellsOf 9)) := hf 2 _ rfl
 rw [c9] at h2
 obtain ⟨x2, e2⟩ := sh_str h2
 obtain ⟨y0, y1, y2, rfl⟩ := list3 hl
 cases e0
 cases e1
 cases e2
 exact ⟨⟨x0, x1, x2⟩, rfl⟩
theorem sh_entries {n : Nat} {xs : List V} (h : shapeOK Try.prog n 22 xs) : ∃ (l : List Entry) (v : V), xs = [v] ∧ (∀ S, Sl S 3 v (l.map encE)) ∧ blkOf v = none ∧ l.length ≤ maxLen := by
 obtain ⟨m, h | ⟨es, h, hlen, hes⟩⟩ := sh_slice Try.underlying22 h
 ·exact ⟨[], .nils, h, fun S => Sl.nilv _ _, rfl, Nat.zero_le _⟩
 ·obtain ⟨l, hl⟩ := list_dec (enc := encE) fun c hc => sh_entry (hes c hc).2
  subst hl
  refine ⟨l, .imm (l.map encE), h, fun S => ⟨.inr (.inl rfl), fun c hc => ?_⟩, rfl, by rw [List.length_map] at hlen; exact hlen⟩
  obtain ⟨a, _, rfl⟩ := List.mem_map.1 hc
  exact ⟨rfl, rfl⟩
theorem sh_strs {n : Nat} {xs : List V} (h : shapeOK Try.prog n 38 xs) : ∃ (l : List (List UInt8)) (v : V), xs = [v] ∧ (∀ S, Sl S 1 v (l.map encS)) ∧ blkOf v = none := by
 obtain ⟨m, h | ⟨es, h, hlen, hes⟩⟩ := sh_slice Try.underlying38 h
 ·exact ⟨[], .nils, h, fun S => Sl.nilv _ _, rfl⟩
 ·obtain ⟨l, hl⟩ := list_dec (enc := encS) fun c hc => sh_str (hes c hc).2
  subst hl
  refine ⟨l, .imm (l.map encS), h, fun S => ⟨.inr (.inl rfl), fun c hc => ?_⟩, rfl⟩
  obtain ⟨a, _, rfl⟩ := List.mem_map.1 hc
  exact ⟨rfl, rfl⟩
theorem sh_hard {n : Nat} {xs : List V} (h : shapeOK Try.prog n 24 xs) : ∃ (g : Hard) (lv : V), xs = cellsH g lv ∧ (∀ S, Sl S 3 lv (g.log.map encE)) ∧ blkOf lv = none ∧ g.log.length ≤ maxLen := by
 obtain ⟨m, hl, hf⟩ := sh_struct Try.underlying24 h
 rw [c24] at hl
 have h0 : shapeOK Try.prog m 3 ((xs.drop 0).take (Try.prog.cellsOf 3)) := hf 0 _ rfl
 rw [c3] at h0
 obtain ⟨x0, e0⟩ := sh_int h0
 have h1 : shapeOK Try.prog m 3 ((xs.drop 1).take (Try.prog.cellsOf 3)) := hf 1 _ rfl
 rw [c3] at h1
 obtain ⟨x1, e1⟩ := sh_int h1
 have h2 : shapeOK Try.prog m 3 ((xs.drop 2).take (Try.prog.cellsOf 3)) := hf 2 _ rfl
 rw [c3] at h2
 obtain ⟨x2, e2⟩ := sh_int h2
 have h3 : shapeOK Try.prog m 3 ((xs.drop 3).take (Try.prog.cellsOf 3)) := hf 3 _ rfl
 rw [c3] at h3
 obtain ⟨x3, e3⟩ := sh_int h3
 have h4 : shapeOK Try.prog m 3 ((xs.drop 4).take (Try.prog.cellsOf 3)) := hf 4 _ rfl
 rw [c3] at h4
 obtain ⟨x4, e4⟩ := sh_int h4
 have h5 : shapeOK Try.prog m 9 ((xs.drop 5).take (Try.prog.cellsOf 9)) := hf 5 _ rfl
 rw [c9] at h5
 obtain ⟨x5, e5⟩ := sh_str h5
 have h6 : shapeOK Try.prog m 22 ((xs.drop 6).take (Try.prog.cellsOf 22)) := hf 6 _ rfl
 rw [c22] at h6
 obtain ⟨x6, v6, e6, s6, b6, l6⟩ := sh_entries h6
 obtain ⟨y0, y1, y2, y3, y4, y5, y6, rfl⟩ := list7 hl
 cases e0
 cases e1
 cases e2
 cases e3
 cases e4
 cases e5
 cases e6
 exact ⟨⟨x0, x1, x2, x3, x4, x5, x6⟩, _, rfl, s6, b6, l6⟩
theorem sh_letter {n : Nat} {xs : List V} (h : shapeOK Try.prog n 37 xs) : ∃ (g : Letter) (ev : V), xs = cellsL g ev ∧ (∀ S, Sl S 3 ev (g.entries.map encE)) ∧ blkOf ev = none := by
 obtain ⟨m, hl, hf⟩ := sh_struct Try.underlying37 h
 rw [c37] at hl
 have h0 : shapeOK Try.prog m 3 ((xs.drop 0).take (Try.prog.cellsOf 3)) := hf 0 _ rfl
 rw [c3] at h0
 obtain ⟨x0, e0⟩ := sh_int h0
 have h1 : shapeOK Try.prog m 3 ((xs.drop 1).take (Try.prog.cellsOf 3)) := hf 1 _ rfl
 rw [c3] at h1
 obtain ⟨x1, e1⟩ := sh_int h1
 have h2 : shapeOK Try.prog m 3 ((xs.drop 2).take (Try.prog.cellsOf 3)) := hf 2 _ rfl
 rw [c3] at h2
 obtain ⟨x2, e2⟩ := sh_int h2
 have h3 : shapeOK Try.prog m 3 ((xs.drop 3).take (Try.prog.cellsOf 3)) := hf 3 _ rfl
 rw [c3] at h3
 obtain ⟨x3, e3⟩ := sh_int h3
 have h4 : shapeOK Try.prog m 3 ((xs.drop 4).take (Try.prog.cellsOf 3)) := hf 4 _ rfl
 rw [c3] at h4
 obtain ⟨x4, e4⟩ := sh_int h4
 have h5 : shapeOK Try.prog m 3 ((xs.drop 5).take (Try.prog.cellsOf 3)) := hf 5 _ rfl
 rw [c3] at h5
 obtain ⟨x5, e5⟩ := sh_int h5
 have h6 : shapeOK Try.prog m 3 ((xs.drop 6).take (Try.prog.cellsOf 3)) := hf 6 _ rfl
 rw [c3] at h6
 obtain ⟨x6, e6⟩ := sh_int h6
 have h7 : shapeOK Try.prog m 3 ((xs.drop 7).take (Try.prog.cellsOf 3)) := hf 7 _ rfl
 rw [c3] at h7
 obtain ⟨x7, e7⟩ := sh_int h7
 have h8 : shapeOK Try.prog m 3 ((xs.drop 8).take (Try.prog.cellsOf 3)) := hf 8 _ rfl
 rw [c3] at h8
 obtain ⟨x8, e8⟩ := sh_int h8
 have h9 : shapeOK Try.prog m 3 ((xs.drop 9).take (Try.prog.cellsOf 3)) := hf 9 _ rfl
 rw [c3] at h9
 obtain ⟨x9, e9⟩ := sh_int h9
 have h10 : shapeOK Try.prog m 4 ((xs.drop 10).take (Try.prog.cellsOf 4)) := hf 10 _ rfl
 rw [c4] at h10
 obtain ⟨x10, e10⟩ := sh_bool h10
 have h11 : shapeOK Try.prog m 9 ((xs.drop 11).take (Try.prog.cellsOf 9)) := hf 11 _ rfl
 rw [c9] at h11
 obtain ⟨x11, e11⟩ := sh_str h11
 have h12 : shapeOK Try.prog m 22 ((xs.drop 12).take (Try.prog.cellsOf 22)) := hf 12 _ rfl
 rw [c22] at h12
 obtain ⟨x12, v12, e12, s12, b12, l12⟩ := sh_entries h12
 obtain ⟨y0, y1, y2, y3, y4, y5, y6, y7, y8, y9, y10, y11, y12, rfl⟩ := list13 hl
 cases e0
 cases e1
 cases e2
 cases e3
 cases e4
 cases e5
 cases e6
 cases e7
 cases e8
 cases e9
 cases e10
 cases e11
 cases e12
 exact ⟨⟨x0, x1, x2, x3, x4, x5, x6, x7, x8, x9, x10, x11, x12⟩, _, rfl, s12, b12⟩
theorem sh_ask {n : Nat} {xs : List V} (h : shapeOK Try.prog n 40 xs) : ∃ q : Ask, xs = encA q ∧ AskOK q := by
 obtain ⟨m, hl, hf⟩ := sh_struct Try.underlying40 h
 rw [c40] at hl
 have h0 : shapeOK Try.prog m 3 ((xs.drop 0).take (Try.prog.cellsOf 3)) := hf 0 _ rfl
 rw [c3] at h0
 obtain ⟨x0, e0⟩ := sh_int h0
 have h1 : shapeOK Try.prog m 3 ((xs.drop 1).take (Try.prog.cellsOf 3)) := hf 1 _ rfl
 rw [c3] at h1
 obtain ⟨x1, e1⟩ := sh_int h1
 have h2 : shapeOK Try.prog m 37 ((xs.drop 2).take (Try.prog.cellsOf 37)) := hf 2 _ rfl
 rw [c37] at h2
 obtain ⟨g, ev, e2, s2, b2⟩ := sh_letter h2
 have h3 : shapeOK Try.prog m 38 ((xs.drop 15).take (Try.prog.cellsOf 38)) := hf 3 _ rfl
 rw [c38] at h3
 obtain ⟨x3, v3, e3, s3, b3⟩ := sh_strs h3
 obtain ⟨y0, y1, y2, y3, y4, y5, y6, y7, y8, y9, y10, y11, y12, y13, y14, y15, rfl⟩ := list16 hl
 cases e0
 cases e1
 cases e3
 refine ⟨⟨x0, x1, g, ev, x3, _⟩, ?_, ⟨s2, s3, b2, b3⟩⟩
 show _ = [V.int .i64 x0, .int .i64 x1] ++ cellsL g ev ++ [_]
 rw [← e2]
 rfl
theorem sh_asks {n : Nat} {xs : List V} (h : shapeOK Try.prog n 25 xs) : ∃ (l : List Ask) (v : V), xs = [v] ∧ (∀ S, Sl S 16 v (l.map encA)) ∧ blkOf v = none ∧ ∀ q, q ∈ l → AskOK q := by
 obtain ⟨m, h | ⟨es, h, hlen, hes⟩⟩ := sh_slice Try.underlying25 h
 ·exact ⟨[], .nils, h, fun S => Sl.nilv _ _, rfl, fun _ h => by cases h⟩
 ·obtain ⟨l, hl, hp⟩ := list_dec2 (enc := encA) (p := AskOK) fun c hc => sh_ask (hes c hc).2
  subst hl
  refine ⟨l, .imm (l.map encA), h, fun S => ⟨.inr (.inl rfl), fun c hc => ?_⟩, rfl, hp⟩
  obtain ⟨a, ha, rfl⟩ := List.mem_map.1 hc
  exact ⟨rfl, encA_one (hp a ha)⟩
end Go.Proofs.Ytbiidlmhadihlaa
end
section
namespace Go.AM
open Go.ChangeShapes Go.WideShapes Go.ChangeAt Go.RowKit
theorem post_of_below {H : Type} {enc : TypeId × Value → H} {P : Program} {f : Func} {s : ChangeSpec} {apart fresh handsOn : Bool} {W W' : World} {args : Array Value} {v : Value} {ds gs : List (DataW H)} {before pa pv : List MemPlace}
  (hW : DataW.Whole enc P f.params.toList s.vars apart W args.toList ds gs before)
  (hres : ∀ (b : Nat) (sp : Nat → Bool) (hd : Bool), DataW.TrodAll enc P W' b sp hd f.resultTypes.toList (v.resultList f.resultTypes.size) (s.fn H (ds ++ gs)).results [])
  (hargs : ∀ sp : Nat → Bool, (∀ p ∈ before, sp p.block = true) → DataW.TrodAll enc P W' 0 sp true f.params.toList args.toList (s.fn H (ds ++ gs)).args pa)
  (hvars : ∀ sp : Nat → Bool, (∀ p ∈ before, sp p.block = true) → DataW.TrodVars enc P W' sp s.vars (s.fn H (ds ++ gs)).vars pv)
  (hps : before = pa ++ pv) (hk : W.keptBut W' (· ∈ before)) :
  s.post enc P f apart fresh handsOn false W args v W' := by
 have hold : ∀ p ∈ before, (fun b => decide (b < W.heap.size)) p.block = true := fun p hp => by simpa using hW.lt p hp
 refine ⟨ds, gs, before, [], pa, pv, hW, hres _ _ _, hargs _ hold, hvars _ hold, World.keptBut_mono (fun p hp => ⟨hp, ?_⟩) hk, fun h => by cases h⟩
 rw [hps, List.mem_append] at hp
 exact Or.inr hp
theorem kept_of_below {W W' : World} (h : Below W.heap.size W W') (S : MemPlace → Prop) : W.keptBut W' S := Below.frame h S
theorem true_trod {H : Type} {enc : TypeId × Value → H} {P : Program} {W : World} {t : TypeId} (ht : P.underlying t = some .bool) (b : Nat) (sp : Nat → Bool) (hd : Bool) :
  DataW.TrodAll enc P W b sp hd [t] ((Value.bool true).resultList 1) [.lit (.bool true)] [] :=
 trodAll_mk1 ⟨1, by simp [DataW.trod, Value.cells, ht]⟩
end Go.AM
end
section
namespace Go.AM
open Go.RowKit Go.ChangeShapes
section
theorem Does.calls {P : Program} {pl : Plans} {lv : Lives} (hp : PlansOK P pl) {f : FuncId} {args : List V} (h : Does P pl lv f args St.empty fun u _ => u = .bool true) (W : World) {cs : List Value} (hc : VRs (Gh.all W) args cs) :
  Calls P f cs.toArray W fun e W' => e = .returned (.bool true) ∧ Below W.heap.size W W' := by
 obtain ⟨k, v, S', hv, hk⟩ := h.says
 subst hv
 exact callsF_true hp hk W hc
section
variable {H : Type} {enc : TypeId × Value → H} {P : Program} {W : World} {sp : Nat → Bool} {held : Bool}
theorem okWide_slice' {r : Reach} {b0 : Nat} {t e : TypeId} {v : Value} (ht : P.underlying t = some (.slice e)) (hval : Value.okWide P W r b0 t v) : v.cells.toList = [v] := by
 cases v with
 | agg cs => simp [Value.okWide, ht, Cell.okWide, Cell.ok] at hval
 | _ => rfl
theorem open_slice_arg {r : Reach} {b0 d : Nat} {t e : TypeId} {v : Value} {dd : DataW H} {ps : List MemPlace} (ht : P.underlying t = some (.slice e)) (hpl : plainB P d t = true) (hval : Value.okWide P W r b0 t v) (hd : DataW.Trod enc P W 0 sp held t v dd ps) :
  ∃ x n, VR (Gh.all W) x v ∧ shapeOK P n t [x] := by
 obtain ⟨fuel, hf⟩ := hd
 obtain ⟨xs, h1, h2⟩ := arg_VR fuel t _ _ d hpl hf
 rw [okWide_slice' ht hval] at h1
 cases h1 with
 | cons x _ vs _ hx t' =>
  cases t'
  exact ⟨x, fuel, hx, h2⟩
theorem open_struct_arg {r : Reach} {b0 d : Nat} {t : TypeId} {fs : Array Field} {v : Value} {dd : DataW H} {ps : List MemPlace} (ht : P.underlying t = some (.struct fs)) (hpl : plainB P d t = true) (hval : Value.okWide P W r b0 t v) (hd : DataW.Trod enc P W 0 sp held t v dd ps) :
  ∃ xs n, VR (Gh.all W) (.agg xs) v ∧ shapeOK P n t xs := by
 obtain ⟨fuel, hf⟩ := hd
 obtain ⟨xs, h1, h2⟩ := arg_VR fuel t _ _ d hpl hf
 simp only [Value.okWide, ht] at hval
 obtain ⟨cs, rfl, _, _⟩ := hval
 exact ⟨xs, fuel, .agg xs cs h1, h2⟩
theorem again_arg {t : TypeId} (hl : laidOutB P = true) (hr : P.readableRec t = true) (hrow : t < P.types.size) {W' : World} {v : Value} {d : DataW H} {ps : List MemPlace} (h : DataW.Trod enc P W 0 (fun _ => true) true t v d ps) (hb : Below W.heap.size W W')
  (hlt : ∀ x ∈ ps, x.block < W.heap.size) {sp' : Nat → Bool} (hs : ∀ x ∈ ps, sp' x.block = true) : DataW.Trod enc P W' 0 sp' true t v d ps :=
 WideElems.Trod_stays hl hr hrow h (fun x hx => hb.same (hlt x hx)) hs
end
end
end Go.AM
end
