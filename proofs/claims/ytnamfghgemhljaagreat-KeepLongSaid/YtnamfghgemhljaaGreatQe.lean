/- What functions of the program do, fourth part; no conditions. -/
import Derived.Test.YtnamfghgemhljaaGreatQd
import Derived.Test.YtnamfghgemhljaaGreatQa
import Derived.Deep.Slices
namespace Go.Pst
open Go Go.Proofs

def s1 : Stt := ⟨1, []⟩
/-- read, of a disk that holds no root, and no record -/
theorem kp_read0 {B0 K : Nat} {w : World} {p d : Nat} {lv : Value} {a : Option Addr} {c : Nat} {D : DSt} {s : Stt} (h : KpB B0 w p d lv a c D s 0 false) (hB0 : B0 ≤ w.heap.size) (hD : DOk K D) (hl1 : lv.oneCell' = true)
    (hr : (rootsRd D 0 96).2.2 = false) (hL0 : (kLog D 0).2 = []) :
    Does Tryz.prog 36 [.pointer (some ⟨p, 0, none⟩)] w fun v w' => v = .int .i64 0 ∧ KpR B0 w' p d ⟨D, (kLog D 0).1, 0, s1, 0, false⟩ ∧ Mod (fun b => B0 ≤ b) SK w w' := by
  obtain ⟨hv, hd, ho, hB⟩ := h
  refine does1 TryzT_ok Tryz.func36 Tryz.call36 Tryz.ntmps36 Tryz.results36 ?_
  conv => whnf
  refine stA TryzT_ok hv ?_
  conv => whnf
  intro w1 hv1 hc1 hs1
  have kk := fun E' (hE : E' ≠ 80) => hc1.kpb hv (E' := E') hE
  have hd1 := hd.kp (kk _ (by decide)) (kk _ (by decide)) (kk _ (by decide)) (kk _ (by decide))
  have m1 : Mod (fun b => B0 ≤ b) SK w w1 := hc1.modB hv hB (by decide)
  conv => whnf
  refine ld TryzT_ok hv1 ?_
  conv => whnf
  refine cl (ro_read hd1 hD.len hD.now 0 96) ?_
  rintro v w2 ⟨x, rfl, hx, hx2⟩
  obtain ⟨ax, cx, rfl, _⟩ := hx
  rw [hr]
  have hv2 := hv1.ext hx2
  have hz := m1.size
  have hz2 := hx2.size
  conv => whnf
  refine cl (kp_begin (s := s1) (ep := 0) (dd := false) (lv := lv) ⟨hv2, hd1.ext hx2, ⟨[], Sl.nil _ _ _ _, rfl⟩, hB⟩ hD.len hD.now hl1) ?_
  rintro v w3 ⟨lp, hb3, hd3, hL3, hm3, _⟩
  have hm : Mod (fun b => B0 ≤ b) SK w w3 := (m1.trans hx2.mod).trans hm3
  have hK := KpR.of hb3 hd3 hL3 (by omega)
  rw [hL0] at hK hL3
  conv => whnf
  refine ld TryzT_ok hb3.var ?_
  conv => whnf
  refine cl (lg_records hL3 (by simp) (by simp)) ?_
  rintro v w4 ⟨a4, c4, rfl, h4, hx4⟩
  conv => whnf
  refine Cw.loopD TryzT_ok (ι := Nat) (fun i e w' => i = 0 ∧ w' = w4 ∧ (∃ g', e = fr g' [(0, .pointer (some ⟨p, 0, none⟩)), (48, .int .i64 0), (49, .int .i64 0)])) (fun i => 0) 0 ⟨rfl, rfl, mkfr _ ⟨rfl, rfl, rfl, trivial⟩⟩ ?_
  rintro i e w5 ⟨rfl, rfl, ⟨g', rfl⟩⟩
  conv => whnf
  refine Cmp.n (by omega) ?_
  conv => whnf
  exact ⟨rfl, hK.ext hx4, hm.trans hx4.mod⟩

theorem sApply_s1 : sApply s1 [] = (0, s1) := by decide
theorem s1_sb : SB 300 s1 := ⟨by decide, fun o ho => by simp [s1] at ho⟩

/-- a store of a new disk -/
def kNew (D : DSt) : Int × KSt := kRenew ⟨D, (kLog D 0).1, 0, s1, 0, false⟩

/-- Open, of a disk that holds no root, and no record -/
theorem kp_open0 {B0 K : Nat} {w : World} {d : Nat} {D : DSt} (hd : DiskR (fun b => B0 ≤ b) w d D) (hB0 : B0 ≤ w.heap.size) (hD : DOk K D) (hK : K ≤ 1000000) (hl : 354 ≤ D.now.length)
    (hr : (rootsRd D 0 96).2.2 = false) (hL0 : (kLog D 0).2 = []) (hn : (kNew D).1 = 0) :
    Does Tryz.prog 12 [.pointer (some ⟨d, 0, none⟩)] w fun v w' => ∃ p, v = .tuple #[.pointer (some ⟨p, 0, none⟩), .int .i64 0] ∧ KpR B0 w' p d (kNew D).2 ∧ Mod (fun b => B0 ≤ b) SK w w' := by
  refine does2 TryzT_ok Tryz.func12 Tryz.call12 Tryz.ntmps12 Tryz.results12 ?_
  conv => whnf
  refine cl (disk_len hd) ?_
  rintro v w1 ⟨rfl, rfl⟩
  conv => whnf
  refine cl (kp_need w1) ?_
  rintro v w2 ⟨rfl, rfl⟩
  conv => whnf
  refine Cmp.n (by omega) ?_
  conv => whnf
  refine bx ?_
  conv => whnf
  intro p w3 hp hs3 hx3 _
  have hz3 := hx3.size
  conv => whnf
  refine cl (kp_read0 (s := ⟨0, []⟩) (lv := .pointer none) (a := none) (c := 0) ⟨hp, hd.ext hx3, ⟨[], Sl.nil _ _ _ _, rfl⟩, by omega⟩ (by omega) hD rfl hr hL0) ?_
  rintro v w4 ⟨rfl, h4, hm4⟩
  conv => whnf
  refine Cmp.no (by simp) ?_
  have hz4 := hm4.size
  have h4' := h4
  obtain ⟨lp, a4, c4, hvv, hdl, ho, hB⟩ := h4'
  conv => whnf
  refine ldA TryzT_ok (hvv.cells (off := 2) (vs := cStt s1 a4 c4) ⟨[.int .i64 0, .bool false], rfl⟩) ?_
  conv => whnf
  refine cl (st_claims (⟨a4, c4, rfl, ho⟩ : StC w4 (cStt s1 a4 c4) s1) (by omega) s1_sb) ?_
  rintro v w5 ⟨h5, hx5⟩
  obtain ⟨a5, c5, rfl⟩ := h5.isSlice
  have hcl : sClaims s1 = [] := rfl
  rw [hcl] at h5 ⊢
  conv => whnf
  refine Cmp.yes (by simp) ?_
  conv => whnf
  refine ld TryzT_ok (hvv.ext hx5) ?_
  conv => whnf
  refine Cmp.n (by simp) ?_
  have hvv5 := hvv.ext hx5
  conv => whnf
  refine ldA TryzT_ok (hvv5.cells (off := 2) (vs := cStt s1 a4 c4) ⟨[.int .i64 0, .bool false], rfl⟩) ?_
  conv => whnf
  refine cl (st_apply (⟨a4, c4, rfl, ho.ext hx5⟩ : StC w5 (cStt s1 a4 c4) s1) (by omega) (.inr s1_sb) (by decide) h5 (by simp)) ?_
  rintro v w6 ⟨c6, rfl, ⟨a6, k6, rfl, ho6⟩, hx6⟩
  have hvv6 := hvv5.ext hx6
  have hdl6 := (hdl.ext hx5).ext hx6
  rw [sApply_s1] at ho6 ⊢
  conv => whnf
  refine stA TryzT_ok hvv6 ?_
  conv => whnf
  intro w7 hv7 hc7 hs7
  have kk := fun E' (hE : E' ≠ 80) => hc7.kpb hvv6 (E' := E') hE
  have h7 : KpR B0 w7 p d ⟨D, (kLog D 0).1, 0, s1, 0, false⟩ := by
    obtain ⟨al, kl, cs, h1, h2, h3, h4⟩ := hdl6
    exact ⟨lp, a6, k6, hv7, ⟨al, kl, cs, Blk.kp h1 (kk _ (by decide)), h2.kp (kk _ (by decide)), h3.kp (kk _ (by decide)) (kk _ (by decide)) (kk _ (by decide)) (kk _ (by decide)), h4⟩, ho6.kp (kk _ (by decide)) (kk _ (by decide)) (kk _ (by decide)), hB⟩
  have hm7 : Mod (fun b => B0 ≤ b) SK w2 w7 := (((hx3.mod.trans hm4).trans hx5.mod).trans hx6.mod).trans (hc7.modB hvv6 hB (by decide))
  conv => whnf
  refine Cmp.no (by simp) ?_
  have hz7 := hm7.size
  conv => whnf
  refine cl (kp_renew h7 (by omega) hD (by omega) (by omega) (.inr s1_sb) (by simp [s1]) (by simp only; omega)) ?_
  rintro v w8 ⟨rfl, h8, hm8⟩
  have hk : kRenew ⟨D, (kLog D 0).1, 0, s1, 0, false⟩ = kNew D := rfl
  rw [hk] at h8 ⊢
  rw [hn]
  conv => whnf
  refine Cmp.no (by simp) ?_
  conv => whnf
  exact ⟨p, rfl, h8, hm7.trans hm8⟩
end Go.Pst

namespace Go.Pst
open Go Go.Proofs

theorem eqC_row (a b : Row) : eqC (cRow a) (cRow b) = decide (a = b) := by
  obtain ⟨k, v⟩ := a
  obtain ⟨k', v'⟩ := b
  rw [Bool.eq_iff_iff, decide_eq_true_iff]
  simp [cRow, eqC]
theorem eqC_msg (a b : Msg) : eqC (cMsg a) (cMsg b) = decide (a = b) := by
  obtain ⟨i, p, r, c, co, bo⟩ := a
  obtain ⟨i', p', r', c', co', bo'⟩ := b
  rw [Bool.eq_iff_iff, decide_eq_true_iff]
  simp [cMsg, eqC]
theorem row_keys : eqKs Tryz.prog 6 120 = some [.s, .s] := by kernel_rfl
theorem row_agg : isAg Tryz.prog 120 = true := by kernel_rfl
theorem row_guard : Tryz.prog.eqGuardType Tryz.prog.depth 120 = false := by kernel_rfl
theorem msg_keys : eqKs Tryz.prog 6 33 = some [.i .i64, .i .i64, .i .i64, .b, .s, .s] := by kernel_rfl
theorem msg_agg : isAg Tryz.prog 33 = true := by kernel_rfl
theorem msg_guard : Tryz.prog.eqGuardType Tryz.prog.depth 33 = false := by kernel_rfl

/-- posteref1.SameRows -/
theorem same_rows {w : World} {v1 v2 : Value} {l m : List Row} (h1 : RowsR w v1 l) (h2 : RowsR w v2 m) (hl : l.length ≤ 1000000000) (hm : m.length ≤ 1000000000) :
    Does Tryz.prog 79 [v1, v2] w fun v w' => v = .bool (decide (l = m)) ∧ Ext w w' := by
  obtain ⟨a1, c1, rfl⟩ := h1.isSlice
  obtain ⟨a2, c2, rfl⟩ := h2.isSlice
  refine does1 TryzT_ok Tryz.func79 Tryz.call79 Tryz.ntmps79 Tryz.results79 ?_
  conv => whnf
  refine Cmp.split (fun hne => ?_) (fun hne => ?_)
  · conv => whnf
    refine ⟨?_, Chg.refl _⟩
    congr 1; rw [eq_comm, decide_eq_false_iff_not]; rintro rfl; simp at hne
  have hll : l.length = m.length := by simp at hne; omega
  conv => whnf
  refine Cw.loopD TryzT_ok (ι := Nat) (fun k e w' => k ≤ l.length ∧ (∃ g, e = fr g [(0, .slice a1 l.length c1), (1, .slice a2 m.length c2), (5, .int .i64 (k : Int))]) ∧ l.take k = m.take k ∧ Ext w w')
    (fun k => l.length - k) 0 ⟨Nat.zero_le _, mkfr _ ⟨rfl, rfl, rfl, trivial⟩, rfl, Chg.refl _⟩ ?_
  rintro k e w1 ⟨hk, ⟨g, rfl⟩, heq, X⟩
  conv => whnf
  refine Cmp.dec (fun hlt => ?_) (fun hlt => ?_)
  · have hlt1 : k < l.length := by omega
    have hlt2 : k < m.length := by omega
    obtain ⟨x, hx⟩ := getElem?_lt hlt1
    obtain ⟨y, hy⟩ := getElem?_lt hlt2
    replace h1 := h1.ext X
    replace h2 := h2.ext X
    obtain ⟨b1, o1, c1', e1⟩ := h1.some (ne_nil_of_lt hlt1)
    cases e1
    obtain ⟨b2, o2, c2', e2⟩ := h2.some (ne_nil_of_lt hlt2)
    cases e2
    conv => whnf
    refine draw TryzT_ok Tryz_mixed (fun w2 hx2 _ => ?_)
    replace X := X.trans hx2
    replace h1 := h1.ext hx2
    replace h2 := h2.ext hx2
    conv => whnf
    refine ia (sz := 2) TryzT_ok ?_ ?_
    · omega
    conv => whnf
    refine ldLA TryzT_ok (h1.cells cRow_len hx) ?_
    conv => whnf
    refine ia (sz := 2) TryzT_ok ?_ ?_
    · omega
    conv => whnf
    refine ldLA TryzT_ok (h2.cells cRow_len hy) ?_
    conv => whnf
    refine neS ?_ row_keys row_agg row_guard
    rw [eqC_row]
    by_cases hxy : x = y
    · rw [decide_eq_true hxy]
      refine Cmp.no rfl ?_
      conv => whnf
      refine Ar.i (by omega) ?_
      conv => whnf
      refine ⟨k + 1, ⟨by omega, mkfr _ ⟨rfl, rfl, rfl, trivial⟩, ?_, X⟩, by omega⟩
      rw [take_snoc hx, take_snoc hy, heq, hxy]
    · rw [decide_eq_false hxy]
      refine Cmp.yes rfl ?_
      conv => whnf
      refine ⟨?_, X⟩
      congr 1; rw [eq_comm, decide_eq_false_iff_not]; rintro rfl; rw [hx] at hy; cases hy; exact hxy rfl
  · have : k = l.length := by omega
    subst this
    conv => whnf
    refine ⟨?_, X⟩
    congr 1; rw [eq_comm, decide_eq_true_iff]
    rw [List.take_length, hll, List.take_length] at heq
    exact heq
/-- posteref14.SameMsgs -/
theorem same_msgs {w : World} {v1 v2 : Value} {l m : List Msg} (h1 : MsgsR w v1 l) (h2 : MsgsR w v2 m) (hl : l.length ≤ 1000000000) (hm : m.length ≤ 1000000000) :
    Does Tryz.prog 80 [v1, v2] w fun v w' => v = .bool (decide (l = m)) ∧ Ext w w' := by
  obtain ⟨a1, c1, rfl⟩ := h1.isSlice
  obtain ⟨a2, c2, rfl⟩ := h2.isSlice
  refine does1 TryzT_ok Tryz.func80 Tryz.call80 Tryz.ntmps80 Tryz.results80 ?_
  conv => whnf
  refine Cmp.split (fun hne => ?_) (fun hne => ?_)
  · conv => whnf
    refine ⟨?_, Chg.refl _⟩
    congr 1; rw [eq_comm, decide_eq_false_iff_not]; rintro rfl; simp at hne
  have hll : l.length = m.length := by simp at hne; omega
  conv => whnf
  refine Cw.loopD TryzT_ok (ι := Nat) (fun k e w' => k ≤ l.length ∧ (∃ g, e = fr g [(0, .slice a1 l.length c1), (1, .slice a2 m.length c2), (5, .int .i64 (k : Int))]) ∧ l.take k = m.take k ∧ Ext w w')
    (fun k => l.length - k) 0 ⟨Nat.zero_le _, mkfr _ ⟨rfl, rfl, rfl, trivial⟩, rfl, Chg.refl _⟩ ?_
  rintro k e w1 ⟨hk, ⟨g, rfl⟩, heq, X⟩
  conv => whnf
  refine Cmp.dec (fun hlt => ?_) (fun hlt => ?_)
  · have hlt1 : k < l.length := by omega
    have hlt2 : k < m.length := by omega
    obtain ⟨x, hx⟩ := getElem?_lt hlt1
    obtain ⟨y, hy⟩ := getElem?_lt hlt2
    replace h1 := h1.ext X
    replace h2 := h2.ext X
    obtain ⟨b1, o1, c1', e1⟩ := h1.some (ne_nil_of_lt hlt1)
    cases e1
    obtain ⟨b2, o2, c2', e2⟩ := h2.some (ne_nil_of_lt hlt2)
    cases e2
    conv => whnf
    refine draw TryzT_ok Tryz_mixed (fun w2 hx2 _ => ?_)
    replace X := X.trans hx2
    replace h1 := h1.ext hx2
    replace h2 := h2.ext hx2
    conv => whnf
    refine ia (sz := 6) TryzT_ok ?_ ?_
    · omega
    conv => whnf
    refine ldLA TryzT_ok (h1.cells cMsg_len hx) ?_
    conv => whnf
    refine ia (sz := 6) TryzT_ok ?_ ?_
    · omega
    conv => whnf
    refine ldLA TryzT_ok (h2.cells cMsg_len hy) ?_
    conv => whnf
    refine neS ?_ msg_keys msg_agg msg_guard
    rw [eqC_msg]
    by_cases hxy : x = y
    · rw [decide_eq_true hxy]
      refine Cmp.no rfl ?_
      conv => whnf
      refine Ar.i (by omega) ?_
      conv => whnf
      refine ⟨k + 1, ⟨by omega, mkfr _ ⟨rfl, rfl, rfl, trivial⟩, ?_, X⟩, by omega⟩
      rw [take_snoc hx, take_snoc hy, heq, hxy]
    · rw [decide_eq_false hxy]
      refine Cmp.yes rfl ?_
      conv => whnf
      refine ⟨?_, X⟩
      congr 1; rw [eq_comm, decide_eq_false_iff_not]; rintro rfl; rw [hx] at hy; cases hy; exact hxy rfl
  · have : k = l.length := by omega
    subst this
    conv => whnf
    refine ⟨?_, X⟩
    congr 1; rw [eq_comm, decide_eq_true_iff]
    rw [List.take_length, hll, List.take_length] at heq
    exact heq

theorem obj_eq (a b : Obj) : decide (a = b) = (decide (a.name = b.name) && decide (a.kind = b.kind) && decide (a.limit = b.limit) && decide (a.rows = b.rows) && decide (a.msgs = b.msgs) && decide (a.dead = b.dead)) := by
  obtain ⟨n, k, l, r, m, d⟩ := a
  obtain ⟨n', k', l', r', m', d'⟩ := b
  rw [Bool.eq_iff_iff]
  simp [and_assoc]

/-- posteref14.SameObject -/
theorem same_obj {w : World} {c1 c2 : List Value} {a b : Obj} (h1 : ObjC w c1 a) (h2 : ObjC w c2 b) (ha : OB 1000000000 a) (hb : OB 1000000000 b) :
    Does Tryz.prog 43 [.agg ⟨c1⟩, .agg ⟨c2⟩] w fun v w' => v = .bool (decide (a = b)) ∧ Ext w w' := by
  obtain ⟨x1, y1, x2, y2, x3, y3, rfl, hA⟩ := h1
  obtain ⟨z1, u1, z2, u2, z3, u3, rfl, hB⟩ := h2
  have X := Chg.refl (M := fun _ => False) w
  rw [obj_eq]
  refine does1 TryzT_ok Tryz.func43 Tryz.call43 Tryz.ntmps43 Tryz.results43 ?_
  conv => whnf
  refine bx ?_
  conv => whnf
  intro p w1 hp _ hx1 _
  replace X := X.trans hx1
  replace hA := hA.ext hx1
  replace hB := hB.ext hx1
  conv => whnf
  refine bx ?_
  conv => whnf
  intro q w2 hq _ hx2 _
  replace X := X.trans hx2
  replace hA := hA.ext hx2
  replace hB := hB.ext hx2
  replace hp := hp.ext hx2
  conv => whnf
  refine ld TryzT_ok hp ?_
  conv => whnf
  refine ld TryzT_ok hq ?_
  conv => whnf
  refine Cmp.dec (fun k1 => ?_) (fun k1 => ?_)
  case refine_2 =>
    conv => whnf
    exact ⟨by rw [decide_eq_false k1]; simp, X⟩
  rw [decide_eq_true k1]
  conv => whnf
  refine ld TryzT_ok hp ?_
  conv => whnf
  refine ld TryzT_ok hq ?_
  conv => whnf
  refine Cmp.dec (fun k2 => ?_) (fun k2 => ?_)
  case refine_2 =>
    conv => whnf
    exact ⟨by rw [decide_eq_false k2]; simp, X⟩
  rw [decide_eq_true k2]
  conv => whnf
  refine ld TryzT_ok hp ?_
  conv => whnf
  refine ld TryzT_ok hq ?_
  conv => whnf
  refine Cmp.dec (fun k3 => ?_) (fun k3 => ?_)
  case refine_2 =>
    conv => whnf
    exact ⟨by rw [decide_eq_false k3]; simp, X⟩
  rw [decide_eq_true k3]
  conv => whnf
  refine ld TryzT_ok hp ?_
  conv => whnf
  refine ld TryzT_ok hq ?_
  conv => whnf
  refine cl (same_rows hA.rows hB.rows ha.rows hb.rows) ?_
  rintro v w3 ⟨rfl, hx3⟩
  replace X := X.trans hx3
  replace hA := hA.ext hx3
  replace hB := hB.ext hx3
  replace hp := hp.ext hx3
  replace hq := hq.ext hx3
  cases decide (a.rows = b.rows) with
  | false =>
    conv => whnf
    exact ⟨by simp, X⟩
  | true =>
    conv => whnf
    refine ld TryzT_ok hp ?_
    conv => whnf
    refine ld TryzT_ok hq ?_
    conv => whnf
    refine cl (same_msgs hA.msgs hB.msgs ha.msgs hb.msgs) ?_
    rintro v w4 ⟨rfl, hx4⟩
    replace X := X.trans hx4
    replace hA := hA.ext hx4
    replace hB := hB.ext hx4
    replace hp := hp.ext hx4
    replace hq := hq.ext hx4
    cases decide (a.msgs = b.msgs) with
    | false =>
      conv => whnf
      exact ⟨by simp, X⟩
    | true =>
      conv => whnf
      refine ld TryzT_ok hp ?_
      conv => whnf
      refine ld TryzT_ok hq ?_
      conv => whnf
      refine cl (same_msgs hA.dead hB.dead ha.dead hb.dead) ?_
      rintro v w5 ⟨rfl, hx5⟩
      conv => whnf
      exact ⟨by simp, X.trans hx5⟩

/-- posteref14.SameState -/
theorem same_state {K : Nat} {w : World} {c1 c2 : List Value} {s t : Stt} (h1 : StC w c1 s) (h2 : StC w c2 t) (hK : K ≤ 1000000000) (hs : SB K s) (ht : SB K t) :
    Does Tryz.prog 15 [.agg ⟨c1⟩, .agg ⟨c2⟩] w fun v w' => v = .bool (decide (s = t)) ∧ Ext w w' := by
  obtain ⟨a1, k1, rfl, ho1⟩ := h1
  obtain ⟨a2, k2, rfl, ho2⟩ := h2
  have hl1 := hs.objs
  have hl2 := ht.objs
  have X := Chg.refl (M := fun _ => False) w
  have hE : decide (s = t) = (decide (s.next = t.next) && decide (s.objs = t.objs)) := by
    obtain ⟨n, l⟩ := s
    obtain ⟨n', l'⟩ := t
    rw [Bool.eq_iff_iff]; simp
  rw [hE]
  refine does1 TryzT_ok Tryz.func15 Tryz.call15 Tryz.ntmps15 Tryz.results15 ?_
  conv => whnf
  refine bx ?_
  conv => whnf
  intro p w1 hp _ hx1 _
  replace X := X.trans hx1
  replace ho1 := ho1.ext hx1
  replace ho2 := ho2.ext hx1
  conv => whnf
  refine bx ?_
  conv => whnf
  intro q w2 hq _ hx2 _
  replace X := X.trans hx2
  replace ho1 := ho1.ext hx2
  replace ho2 := ho2.ext hx2
  replace hp := hp.ext hx2
  conv => whnf
  refine ld TryzT_ok hp ?_
  conv => whnf
  refine ld TryzT_ok hq ?_
  conv => whnf
  refine Cmp.split (fun hn => ?_) (fun hn => ?_)
  · have hn : ¬ s.next = t.next := by simpa using hn
    conv => whnf
    exact ⟨by rw [decide_eq_false hn]; rfl, X⟩
  have hn : s.next = t.next := by simpa using hn
  rw [decide_eq_true hn]
  conv => whnf
  refine ld TryzT_ok hp ?_
  conv => whnf
  refine ld TryzT_ok hq ?_
  conv => whnf
  refine Cmp.split (fun hne => ?_) (fun hne => ?_)
  · conv => whnf
    refine ⟨?_, X⟩
    rw [Bool.true_and]
    congr 1; rw [eq_comm, decide_eq_false_iff_not]; intro h; rw [h] at hne; simp at hne
  have hll : s.objs.length = t.objs.length := by simp at hne; omega
  conv => whnf
  refine Cw.loopD TryzT_ok (ι := Nat) (fun k e w' => k ≤ s.objs.length ∧ (∃ g, e = fr g [(2, .pointer (some ⟨p, 0, none⟩)), (3, .pointer (some ⟨q, 0, none⟩)), (5, .int .i64 (k : Int))]) ∧ s.objs.take k = t.objs.take k ∧ Ext w2 w')
    (fun k => s.objs.length - k) 0 ⟨Nat.zero_le _, mkfr _ ⟨rfl, rfl, rfl, trivial⟩, rfl, Chg.refl _⟩ ?_
  rintro k e w3 ⟨hk, ⟨g, rfl⟩, heq, X3⟩
  have hp3 := hp.ext X3
  have hq3 := hq.ext X3
  have h1 := ho1.ext X3
  have h2 := ho2.ext X3
  conv => whnf
  refine ld TryzT_ok hp3 ?_
  conv => whnf
  refine Cmp.dec (fun hlt => ?_) (fun hlt => ?_)
  · have hlt1 : k < s.objs.length := by omega
    have hlt2 : k < t.objs.length := by omega
    obtain ⟨x, hx⟩ := getElem?_lt hlt1
    obtain ⟨y, hy⟩ := getElem?_lt hlt2
    obtain ⟨b1, o1, c1', e1⟩ := h1.some (ne_nil_of_lt hlt1)
    cases e1
    obtain ⟨b2, o2, c2', e2⟩ := h2.some (ne_nil_of_lt hlt2)
    cases e2
    conv => whnf
    refine draw TryzT_ok Tryz_mixed (fun w4 hx4 _ => ?_)
    replace X3 := X3.trans hx4
    replace h1 := h1.ext hx4
    replace h2 := h2.ext hx4
    replace hp3 := hp3.ext hx4
    replace hq3 := hq3.ext hx4
    obtain ⟨m1, n1, m2, n2, m3, n3, hc1, hP1⟩ := h1.at_ hx
    obtain ⟨r1, s1, r2, s2, r3, s3, hc2, hP2⟩ := h2.at_ hy
    conv => whnf
    refine ldL TryzT_ok hp3 ?_
    conv => whnf
    refine ia (sz := 6) TryzT_ok ?_ ?_
    · omega
    conv => whnf
    refine ldLA TryzT_ok hc1 ?_
    conv => whnf
    refine ldL TryzT_ok hq3 ?_
    conv => whnf
    refine ia (sz := 6) TryzT_ok ?_ ?_
    · omega
    conv => whnf
    refine ldLA TryzT_ok hc2 ?_
    conv => whnf
    refine cl (same_obj (ObjC.mk hP1) (ObjC.mk hP2) ((hs.ob x (List.mem_of_getElem? hx)).mono hK) ((ht.ob y (List.mem_of_getElem? hy)).mono hK)) ?_
    rintro v w5 ⟨rfl, hx5⟩
    replace X3 := X3.trans hx5
    by_cases hxy : x = y
    · rw [decide_eq_true hxy]
      conv => whnf
      refine Ar.i (by omega) ?_
      conv => whnf
      refine ⟨k + 1, ⟨by omega, mkfr _ ⟨rfl, rfl, rfl, trivial⟩, ?_, X3⟩, by omega⟩
      rw [take_snoc hx, take_snoc hy, heq, hxy]
    · rw [decide_eq_false hxy]
      conv => whnf
      refine ⟨?_, X.trans X3⟩
      rw [Bool.true_and]
      congr 1; rw [eq_comm, decide_eq_false_iff_not]; intro h; rw [h, hy] at hx; cases hx; exact hxy rfl
  · have : k = s.objs.length := by omega
    subst this
    conv => whnf
    refine ⟨?_, X.trans X3⟩
    rw [Bool.true_and]
    congr 1; rw [eq_comm, decide_eq_true_iff]
    rw [List.take_length, hll, List.take_length] at heq
    exact heq

theorem lw_num (w : World) (n : Int) : Does Tryz.prog 13 [.int .i64 n] w fun v w' => v = .int .i64 n ∧ w' = w := by
  refine does1 TryzT_ok Tryz.func13 Tryz.call13 Tryz.ntmps13 Tryz.results13 ?_
  conv => whnf
  exact ⟨rfl, rfl⟩
end Go.Pst

namespace Go.Pst
open Go Go.Proofs

/-- a disk that does not fail -/
structure DG (D : DSt) : Prop where
  len : D.now.length = 354
  nb : D.broken = false
  nl : D.left = -1
  sec : ∀ s ∈ D.now, s.length = 64

theorem DG.w {D : DSt} (h : DG D) {i : Int} {b : Sec} (hi : 0 ≤ i ∧ i < 354) (hb : b.length = 64) :
    dWriteOk D i b = true ∧ DG (dWrite D i b) ∧ (dWrite D i b).now = D.now.set i.toNat b ∧ (dWrite D i b).written = D.written + 1 := by
  have hok : dWriteOk D i b = true := by unfold dWriteOk; rw [h.nb]; simp [hb, h.len]; omega
  have hw : dWrite D i b = ⟨D.sure, D.now.set i.toNat b, D.unsure ++ [(i.toNat, b)], -1, false, D.written + 1⟩ := by
    unfold dWrite; rw [if_pos hok, h.nl, h.nb]; rfl
  rw [hw]
  refine ⟨hok, ⟨by simp [h.len], rfl, rfl, fun s hs => ?_⟩, rfl, rfl⟩
  rcases List.mem_or_eq_of_mem_set hs with hs | rfl
  · exact h.sec s hs
  · exact hb
theorem DG.s {D : DSt} (h : DG D) : DG (dSync D) ∧ (dSync D).now = D.now ∧ (dSync D).written = D.written := by
  unfold dSync
  rw [if_neg (by rw [h.nb]; decide)]
  exact ⟨⟨h.len, h.nb, h.nl, h.sec⟩, rfl, rfl⟩
/-- outside of some sectors nothing is changed -/
def Same (D D' : DSt) (a n : Nat) : Prop := ∀ j : Nat, (j < a ∨ a + n ≤ j) → D'.now[j]? = D.now[j]?
theorem DG.puts {l : List Sec} : ∀ {D : DSt} {a : Nat}, DG D → a + l.length ≤ 354 → (∀ s ∈ l, s.length = 64) → (dPuts D a l).1 = true ∧ DG (dPuts D a l).2 ∧ Same D (dPuts D a l).2 a l.length ∧ D.written ≤ (dPuts D a l).2.written := by
  induction l with
  | nil => intro D a h _ _; exact ⟨rfl, h, fun j _ => rfl, Int.le_refl _⟩
  | cons s l ih =>
    intro D a h ha hs
    simp only [List.length_cons] at ha
    obtain ⟨h1, h2, h3, h4⟩ := h.w (i := a) (b := s) (by omega) (hs s List.mem_cons_self)
    have := ih (D := dWrite D a s) (a := a + 1) h2 (by omega) (fun x hx => hs x (List.mem_cons_of_mem _ hx))
    rw [show ((a + 1 : Nat) : Int) = (a : Int) + 1 from by omega] at this
    unfold dPuts
    rw [if_pos h1]
    obtain ⟨g1, g2, g3, g4⟩ := this
    refine ⟨g1, g2, fun j hj => ?_, by omega⟩
    simp only [List.length_cons] at hj
    rw [g3 j (by omega), h3, List.getElem?_set_ne (by omega)]
theorem chunks_sec {n : Nat} : ∀ {l : List UInt8}, l.length = n * 64 → ∀ s ∈ chunks n l, s.length = 64 := by
  induction n with
  | zero => intro l _ s hs; simp [chunks] at hs
  | succ n ih =>
    intro l hl s hs
    simp only [chunks, List.mem_cons] at hs
    rcases hs with rfl | hs
    · simp; omega
    · exact ih (by simp; omega) s hs
theorem DG.put {D : DSt} (h : DG D) {a : Nat} {l : List UInt8} (ha : a + nd l.length ≤ 354) : (dPut D a l).1 = true ∧ DG (dPut D a l).2 ∧ Same D (dPut D a l).2 a (nd l.length) ∧ D.written ≤ (dPut D a l).2.written := by
  unfold dPut
  split
  · exact ⟨rfl, h, fun j _ => rfl, Int.le_refl _⟩
  · rw [if_pos (by unfold spIs; simp [h.len]; omega)]
    have := h.puts (l := chunks (nd l.length) (fill l)) (a := a) (by rw [chunks_len]; exact ha) (chunks_sec (fill_len l))
    rwa [chunks_len] at this
theorem DG.read {D D' : DSt} {a n : Nat} (h : Same D D' a n) {i : Nat} (hi : i < a ∨ a + n ≤ i) : dRead D' i = dRead D i := by
  unfold dRead
  rw [if_pos (by omega), if_pos (by omega), List.getD_eq_getElem?_getD, List.getD_eq_getElem?_getD, Int.toNat_natCast, h i hi]

theorem DG.root {D : DSt} (h : DG D) {ep : Int} {l : List UInt8} (he : 1 ≤ ep) (hl : l.length ≤ 6144) :
    (rootsWr D 0 96 ep l).1 = 0 ∧ DG (rootsWr D 0 96 ep l).2 ∧ (∀ j : Nat, 194 ≤ j → (rootsWr D 0 96 ep l).2.now[j]? = D.now[j]?) ∧ D.written ≤ (rootsWr D 0 96 ep l).2.written := by
  have hnd : nd l.length ≤ 96 := by unfold nd; omega
  have hr : rcut 96 = 96 := rfl
  have hsp : spIs D 0 0 = true := by unfold spIs; simp
  obtain ⟨pt, hpt, hpt2⟩ : ∃ pt : Nat, rplace 0 96 ep = pt ∧ pt + 96 ≤ 194 := by
    refine ⟨(rplace 0 96 ep).toNat, ?_, ?_⟩ <;> unfold rplace <;> omega
  obtain ⟨g1, g2, g3, g4⟩ := h.put (a := pt) (l := l) (by omega)
  obtain ⟨s1, s2, s3⟩ := g2.s
  obtain ⟨w1, w2, w3, w4⟩ := s1.w (i := ep % 2) (b := rootB ep l.length) (by omega) (rootB_len _ _)
  obtain ⟨t1, t2, t3⟩ := w2.s
  unfold rootsWr
  rw [if_neg (by omega), hr, if_neg (by omega)]
  simp only [hsp, if_true, hpt, Int.zero_add]
  rw [if_neg (by rw [g1]; decide), if_neg (by rw [g2.nb]; decide), if_neg (by rw [w1]; decide), if_neg (by rw [w2.nb]; decide)]
  refine ⟨rfl, t1, fun j hj => ?_, by simp only; omega⟩
  simp only
  rw [t2, w3, List.getElem?_set_ne (by omega), s2]
  exact g3 j (by omega)

theorem unle_enc (n : Int) : unle (encI n) = u64 n := by
  unfold encI; rw [unle_le]; exact Nat.mod_eq_of_lt (u64_lt n)
theorem headB_inj {e e' n n' k k' : Int} (h : headB e k n = headB e' k' n') (he : -9223372036854775808 ≤ e ∧ e < 9223372036854775808) (he' : -9223372036854775808 ≤ e' ∧ e' < 9223372036854775808) : e = e' := by
  have hr : (encT tRec).length = 5 := rfl
  have key : ∀ e k n, ((headB e k n).drop 5).take 8 = encI e := by
    intro e k n
    unfold headB fill
    rw [List.append_assoc, List.append_assoc, List.append_assoc]
    rw [show (5 : Nat) = (encT tRec).length from rfl, List.drop_left, List.take_left' (encI_len e)]
  have h1 := congrArg (fun l => (l.drop 5).take 8) h
  simp only [key] at h1
  have h2 := congrArg unle h1
  rw [unle_enc, unle_enc] at h2
  rw [← i64_u64 e he, ← i64_u64 e' he', h2]
theorem zsec_head (e k n : Int) : zsec ≠ headB e k n := by
  intro h
  have h1 := congrArg (fun l => l.take 1) h
  have : (headB e k n).take 1 = [3] := by
    unfold headB fill
    rw [List.append_assoc, List.append_assoc, List.append_assoc]
    rfl
  rw [this] at h1
  revert h1; decide

/-- a store that does not fail -/
structure KG (N : Int) (S : KSt) : Prop where
  d : DG S.disk
  dead : S.dead = false
  lf : S.log.failed = false
  en : S.log.en = 354
  nx : (S.k : Int) + 194 ≤ S.log.nx ∧ S.log.nx ≤ 354
  ep : 0 ≤ S.epoch ∧ S.epoch ≤ N
  lep : S.log.ep = S.epoch
  st : sSize S.st ≤ 6000
  new : ∀ e n : Int, S.epoch < e → e < 2000000000000 → dRead S.disk 194 ≠ headB e 1 n

theorem encT_len2 (s : ByteArray) : ((encT s).length : Int) ≤ 2 + s.size := by rw [encT_len]; omega
theorem flat_le {α : Type} {f : α → List UInt8} {g : α → Int} {l : List α} (h : ∀ x ∈ l, ((f x).length : Int) ≤ g x) : ((l.flatMap f).length : Int) ≤ (l.map g).sum := by
  induction l with
  | nil => simp
  | cons x l ih =>
    have h1 := h x List.mem_cons_self
    have h2 := ih fun y hy => h y (List.mem_cons_of_mem _ hy)
    simp only [List.flatMap_cons, List.length_append, List.map_cons, List.sum_cons]; omega
theorem encM_le (m : Msg) : ((encM m).length : Int) ≤ mSize m := by
  unfold encM mSize
  have := encT_len2 m.corr
  have := encT_len2 m.body
  simp only [List.length_append, encI_len, encF_len]; omega
theorem encO_le (o : Obj) : ((encO o).length : Int) ≤ oSize o := by
  unfold encO oSize encMs
  have h1 := encT_len2 o.name
  have h2 := flat_le (f := encR) (g := rSize) (l := o.rows) fun r _ => by
    unfold encR rSize
    have := encT_len2 r.key
    have := encT_len2 r.val
    rw [List.length_append]; omega
  have h3 := flat_le (f := encM) (g := mSize) (l := o.msgs) fun m _ => encM_le m
  have h4 := flat_le (f := encM) (g := mSize) (l := o.dead) fun m _ => encM_le m
  rw [List.map_append, List.sum_append]
  simp only [List.length_append, encI_len] at *
  omega
theorem image_le {s : Stt} (h : sSize s ≤ 6000) : (image s).length ≤ 6000 := by
  unfold image
  split
  · unfold encS
    have h1 := flat_le (f := encO) (g := oSize) (l := s.objs) fun o _ => encO_le o
    unfold sSize at h
    simp only [List.length_append, encI_len]; omega
  · simp

theorem kLog_new {D : DSt} (h : DG D) {ep : Int} (hn : ∀ n : Int, dRead D 194 ≠ headB ep 1 n) : kLog D ep = (⟨194, 354, 194, ep, false⟩, []) := by
  unfold kLog lgOpen
  have hsp : spIs D 194 0 = true := by unfold spIs; simp [h.len]
  simp only [hsp, if_true, h.len]
  have e1 : (194 + max 0 (min 160 (((354 : Nat) : Int) - 194))) = 354 := by decide
  rw [e1]
  show lgAll D (159 + 1) _ _ = _
  refine lgAll_none 159 ?_
  unfold lgNext
  rw [if_neg]
  unfold lgOk
  simp only [Bool.and_eq_true, decide_eq_true_eq, not_and]
  intro _ h2
  exact hn _ h2

theorem KG.mono {N N' : Int} {S : KSt} (h : KG N S) (hN : N ≤ N') : KG N' S := ⟨h.d, h.dead, h.lf, h.en, h.nx, ⟨h.ep.1, by have := h.ep.2; omega⟩, h.lep, h.st, h.new⟩

theorem kRenew_good {N : Int} {S : KSt} (h : KG N S) (hN : N < 1000000000000) : (kRenew S).1 = 0 ∧ KG (N + 1) (kRenew S).2 ∧ (kRenew S).2.st = S.st ∧ (kRenew S).2.log.nx = 194 ∧ (kRenew S).2.k = 0 ∧ S.disk.written ≤ (kRenew S).2.disk.written ∧ (kRenew S).2.epoch = S.epoch + 1 := by
  have he := h.ep
  have hl := image_le h.st
  obtain ⟨g1, g2, g3, g4⟩ := h.d.root (ep := S.epoch + 1) (l := image S.st) (by omega) (by omega)
  have hrd : dRead (rootsWr S.disk 0 96 (S.epoch + 1) (image S.st)).2 194 = dRead S.disk 194 := by
    have := g3 194 (by omega)
    unfold dRead
    rw [if_pos (by omega), if_pos (by omega), List.getD_eq_getElem?_getD, List.getD_eq_getElem?_getD]
    rw [show (194 : Int).toNat = 194 from rfl, this]
  have hk := kLog_new g2 (ep := S.epoch + 1) (fun n => by rw [hrd]; exact h.new _ n (by omega) (by omega))
  have hR : kRenew S = (0, { S with disk := (rootsWr S.disk 0 96 (S.epoch + 1) (image S.st)).2, epoch := S.epoch + 1, log := ⟨194, 354, 194, S.epoch + 1, false⟩, k := 0 }) := by
    unfold kRenew
    simp only
    rw [if_neg (by rw [g1]; decide), hk]
    rfl
  rw [hR]
  exact ⟨rfl, ⟨g2, h.dead, rfl, rfl, by simp only; omega, by simp only; omega, rfl, h.st, fun e n he1 he2 => by rw [hrd]; exact h.new e n (by simp only at he1; omega) he2⟩, rfl, rfl, rfl, g4, rfl⟩

theorem DG.lput {D : DSt} (h : DG D) {L : LSt} {k : Nat} {l : List UInt8} (hen : L.en = 354) (hnx : 194 ≤ L.nx) (hf : L.nx + 1 + nd l.length ≤ 354) :
    (lgPut D L k l).1 = true ∧ DG (lgPut D L k l).2 ∧ D.written < (lgPut D L k l).2.written ∧ dRead (lgPut D L k l).2 194 = if L.nx = 194 then headB L.ep (k + 1) l.length else dRead D 194 := by
  obtain ⟨nx, hnx2⟩ : ∃ nx : Nat, L.nx = nx := ⟨L.nx.toNat, by omega⟩
  obtain ⟨g1, g2, g3, g4⟩ := h.put (a := nx + 1) (l := l) (by omega)
  have put2 : ∀ D2, DG D2 → (∀ j : Nat, j ≤ nx → D2.now[j]? = D.now[j]?) → D.written ≤ D2.written → (lgPut2 D2 L k l.length).1 = true ∧ DG (lgPut2 D2 L k l.length).2 ∧ D.written < (lgPut2 D2 L k l.length).2.written ∧ dRead (lgPut2 D2 L k l.length).2 194 = if L.nx = 194 then headB L.ep (k + 1) l.length else dRead D 194 := by
    intro D2 hD2 hs hw
    obtain ⟨s1, s2, s3⟩ := hD2.s
    obtain ⟨w1, w2, w3, w4⟩ := s1.w (i := L.nx) (b := headB L.ep (k + 1) l.length) (by omega) (headB_len _ _ _)
    obtain ⟨t1, t2, t3⟩ := w2.s
    unfold lgPut2
    rw [if_neg (by rw [hD2.nb]; decide), if_neg (by rw [w1]; decide), if_neg (by rw [w2.nb]; decide)]
    refine ⟨rfl, t1, by simp only; rw [t3, w4, s3]; omega, ?_⟩
    simp only
    unfold dRead
    rw [if_pos (show (0 : Int) ≤ 194 by omega), if_pos (show (0 : Int) ≤ 194 by omega), t2, w3, s2, List.getD_eq_getElem?_getD, show (194 : Int).toNat = 194 from rfl]
    by_cases hx : L.nx = 194
    · rw [if_pos hx, hx]
      rw [show (Int.toNat 194) = 194 from rfl, List.getElem?_set_self (by rw [hD2.len]; decide)]
      rfl
    · rw [if_neg hx, List.getElem?_set_ne (by omega), hs 194 (by omega), List.getD_eq_getElem?_getD]
  unfold lgPut
  simp only [hnx2] at *
  rw [show ((nx : Int) + 1) = ((nx + 1 : Nat) : Int) from by omega]
  rw [if_neg (by rw [g1]; decide)]
  split
  · rename_i hb
    obtain ⟨w1, w2, w3, w4⟩ := g2.w (i := ((nx + 1 : Nat) : Int) + nd l.length) (b := zsec) (by omega) (by simp [zsec])
    rw [if_neg (by rw [w1]; decide)]
    refine put2 _ w2 (fun j hj => ?_) (by omega)
    rw [w3, List.getElem?_set_ne (by omega)]
    exact g3 j (by omega)
  · exact put2 _ g2 (fun j hj => g3 j (by omega)) g4

theorem kApp_good {N : Int} {S : KSt} (h : KG N S) (hN : N ≤ 1000000000000) {b : List UInt8} (hf : S.log.nx + 1 + nd b.length ≤ 354) : (kApp S b).1 = 0 ∧ KG N (kApp S b).2 ∧ (kApp S b).2.st = S.st ∧ S.disk.written < (kApp S b).2.disk.written ∧ (kApp S b).2.epoch = S.epoch := by
  have hn := h.nx
  have he := h.ep
  obtain ⟨g1, g2, g3, g4⟩ := h.d.lput (L := S.log) (k := S.k) (l := b) h.en (by omega) hf
  have hfit : lgFits S.log b.length = true := by
    unfold lgFits
    rw [needI_nat, h.en]; simp only [decide_eq_true_eq]; omega
  have hA : lgApp S.disk S.log S.k b = (0, (lgPut S.disk S.log S.k b).2, { S.log with nx := S.log.nx + (1 + nd b.length) }, S.k + 1) := by
    unfold lgApp
    rw [if_neg (by rw [h.lf]; decide), if_neg (by rw [hfit]; decide)]
    simp only
    rw [if_pos g1]
  unfold kApp
  rw [hA]
  refine ⟨rfl, ⟨g2, h.dead, h.lf, h.en, by simp only; omega, h.ep, h.lep, h.st, fun e n he1 he2 => ?_⟩, rfl, g3, rfl⟩
  simp only at he1 ⊢
  rw [g4]
  split
  · intro hh
    have := headB_inj hh (by rw [h.lep]; omega) (by omega)
    rw [h.lep] at this; omega
  · exact h.new e n he1 he2

theorem kAppend_good {N : Int} {S : KSt} (h : KG N S) (hN : N < 1000000000000) {b : List UInt8} (hb0 : 0 < b.length) (hb : b.length ≤ 10176) : (kAppend S b).1 = 0 ∧ KG (N + 1) (kAppend S b).2 ∧ (kAppend S b).2.st = S.st ∧ S.disk.written < (kAppend S b).2.disk.written := by
  have hn := h.nx
  have hnd : nd b.length ≤ 159 := by unfold nd; omega
  unfold kAppend
  split
  · rename_i hr
    rw [if_neg (by omega)]
    obtain ⟨r1, r2, r3, r4, r5, r6, r7⟩ := kRenew_good h hN
    rw [if_neg (by rw [r1]; decide)]
    obtain ⟨a1, a2, a3, a4, a5⟩ := kApp_good r2 (by omega) (b := b) (by rw [r4]; omega)
    exact ⟨a1, a2, by rw [a3, r3], by omega⟩
  · rename_i hr
    unfold lgRoom at hr
    rw [h.en] at hr
    have hle : S.log.nx + 1 + nd b.length ≤ 354 := by
      have : nd b.length * 64 < b.length + 64 := by unfold nd; omega
      omega
    obtain ⟨a1, a2, a3, a4, a5⟩ := kApp_good h (by omega) (b := b) hle
    exact ⟨a1, a2.mono (by omega), a3, a4⟩

theorem encEs_pos (l : List Eff) : 8 ≤ (encEs l).length := by unfold encEs; rw [List.length_append, encI_len]; omega

theorem kDo_good {N : Int} {S : KSt} (h : KG N S) (hN : N < 1000000000000) {l : List Eff} (hne : l.length ≠ 0) (hl : (encEs l).length ≤ 10176) (ha : (sApply S.st l).1 = 0) (hs : sSize (sApply S.st l).2 ≤ 6000) :
    (kDo S l).1 = 0 ∧ KG (N + 1) (kDo S l).2 ∧ (kDo S l).2.st = (sApply S.st l).2 ∧ S.disk.written < (kDo S l).2.disk.written := by
  have hp := encEs_pos l
  obtain ⟨a1, a2, a3, a4⟩ := kAppend_good h hN (b := encEs l) (by omega) hl
  unfold kDo
  rw [if_neg (by rw [h.dead]; decide), if_neg (by rw [ha]; decide), if_neg (by omega), if_neg hne, a1]
  refine ⟨rfl, ⟨a2.d, rfl, a2.lf, a2.en, a2.nx, a2.ep, a2.lep, hs, a2.new⟩, rfl, a4⟩
theorem kDo_err {S : KSt} (hd : S.dead = false) {l : List Eff} (ha : (sApply S.st l).1 ≠ 0) : kDo S l = ((sApply S.st l).1, S) := by
  unfold kDo; rw [if_neg (by rw [hd]; decide), if_pos ha]
theorem kDo_full {S : KSt} (hd : S.dead = false) {l : List Eff} (ha : (sApply S.st l).1 = 0) (hs : 6000 < sSize (sApply S.st l).2) : kDo S l = (9, S) := by
  unfold kDo; rw [if_neg (by rw [hd]; decide), if_neg (by rw [ha]; decide), if_pos hs]
theorem kDo_nil {S : KSt} (hd : S.dead = false) (ha : (sApply S.st []).1 = 0) (hs : sSize (sApply S.st []).2 ≤ 6000) : kDo S [] = (0, S) := by
  unfold kDo; rw [if_neg (by rw [hd]; decide), if_neg (by rw [ha]; decide), if_neg (by omega), if_pos List.length_nil]

/-- a new disk -/
theorem DG.new : DG (dNew 354) := ⟨by unfold dNew; rw [List.length_replicate]; decide, rfl, rfl, fun s hs => by rw [List.eq_of_mem_replicate hs]; rfl⟩
theorem new_read (i : Int) (h : 0 ≤ i ∧ i < 354) : dRead (dNew 354) i = zsec := by
  unfold dRead dNew
  rw [if_pos h.1, List.getD_eq_getElem?_getD, List.getElem?_replicate, if_pos (by omega)]; rfl
theorem new_rootsRd : (rootsRd (dNew 354) 0 96).2.2 = false := by
  have key : ∀ i : Int, 0 ≤ i ∧ i < 2 → rootRd (dNew 354) 0 96 i = (0, [], false) := by
    intro i hi
    have hr : rootOf (dNew 354) (0 + i) = (0, 0) := by
      unfold rootOf
      rw [new_read (0 + i) (by omega)]
      decide
    exact rootRd_no hr (by unfold rootOk; rw [decide_eq_false (by omega)]; rfl)
  have hc : rcut 96 = 96 := rfl
  unfold rootsRd
  split
  · simp only [hc, key 0 (by omega), key 1 (by omega)]
    decide
  · rfl
theorem new_log : kLog (dNew 354) 0 = (⟨194, 354, 194, 0, false⟩, []) := kLog_new DG.new fun n => by rw [new_read 194 (by omega)]; exact zsec_head _ _ _
def kZero : KSt := ⟨dNew 354, ⟨194, 354, 194, 0, false⟩, 0, s1, 0, false⟩
theorem kZero_good : KG 0 kZero := ⟨DG.new, rfl, rfl, rfl, by simp [kZero], by simp [kZero], rfl, by decide, fun e n _ _ => by
  show dRead (dNew 354) 194 ≠ _
  rw [new_read 194 (by omega)]; exact zsec_head _ _ _⟩
theorem kNew_eq : kNew (dNew 354) = kRenew kZero := by unfold kNew; rw [new_log]; rfl
theorem kNew_good : (kNew (dNew 354)).1 = 0 ∧ KG 1 (kNew (dNew 354)).2 ∧ (kNew (dNew 354)).2.st = s1 ∧ (kNew (dNew 354)).2.epoch = 1 := by
  rw [kNew_eq]
  obtain ⟨h1, h2, h3, _, _, _, h7⟩ := kRenew_good kZero_good (by omega)
  exact ⟨h1, h2, h3, h7⟩
theorem kNew_ok : KOk 4098 (kNew (dNew 354)).2 := by
  rw [kNew_eq]
  exact kRenew_ok (n := 0) ⟨DOk.new 354, by simp [kZero], s1_sb, by simp [kZero]⟩
end Go.Pst

namespace Go.Pst
open Go Go.Proofs

def tT : ByteArray := ⟨#[116]⟩
def eMk : Eff := ⟨1, tT, e0, e0, 1, 0, false, m0⟩
def oT (l : List Row) : Obj := ⟨tT, 1, 0, l, [], []⟩
def stT (l : List Row) : Stt := ⟨1, [oT l]⟩
theorem sApply_mk : sApply s1 [eMk] = (0, stT []) := by decide
theorem encMk_len : (encEs [eMk]).length ≤ 10176 := by decide
/-- the new store -/
theorem S0_ex : ∃ S, S = (kNew (dNew 354)).2 := ⟨_, rfl⟩
noncomputable def S0 : KSt := Classical.choose S0_ex
theorem S0_eq : S0 = (kNew (dNew 354)).2 := Classical.choose_spec S0_ex
theorem S1_ex : ∃ S, S = (kDo S0 [eMk]).2 := ⟨_, rfl⟩
noncomputable def S1 : KSt := Classical.choose S1_ex
theorem S1_eq : S1 = (kDo S0 [eMk]).2 := Classical.choose_spec S1_ex
theorem S0_good : KG 1 S0 ∧ S0.st = s1 ∧ S0.epoch = 1 ∧ KOk 4098 S0 := by
  rw [S0_eq]; exact ⟨kNew_good.2.1, kNew_good.2.2.1, kNew_good.2.2.2, kNew_ok⟩
theorem S1_good : (kDo S0 [eMk]).1 = 0 ∧ KG 2 S1 ∧ S1.st = stT [] ∧ KOk 12294 S1 := by
  obtain ⟨h1, h2, h3, h4⟩ := S0_good
  have ha : sApply S0.st [eMk] = (0, stT []) := by rw [h2]; exact sApply_mk
  obtain ⟨a1, a2, a3, _⟩ := kDo_good h1 (by omega) (l := [eMk]) (by simp) encMk_len (by rw [ha]) (by rw [ha]; decide)
  rw [S1_eq]
  exact ⟨a1, a2, by rw [ha] at a3; exact a3, kDo_ok h4 _⟩
theorem effs1 {w : World} {v : Value} {e : Eff} (h : Own w v 35 13 1 (cEff e)) : EffsR w v [e] := by
  show Sl _ _ _ _ _ _
  have := h.sl
  simpa using this

/-- a store on a new disk -/
theorem lw_open {w : World} {d : Nat} (hd : DiskR (fun b => w.heap.size ≤ b) w d (dNew 354) ∨ ∃ B0, B0 ≤ w.heap.size ∧ DiskR (fun b => B0 ≤ b) w d (dNew 354)) {B0 : Nat} (hB : B0 ≤ w.heap.size) (hd2 : DiskR (fun b => B0 ≤ b) w d (dNew 354)) :
    Does Tryz.prog 12 [.pointer (some ⟨d, 0, none⟩)] w fun v w' => ∃ p, v = .tuple #[.pointer (some ⟨p, 0, none⟩), .int .i64 0] ∧ KpR B0 w' p d S0 ∧ Mod (fun b => B0 ≤ b) SK w w' := by
  rw [S0_eq]
  exact kp_open0 hd2 hB (DOk.new 354) (by omega) (by unfold dNew; rw [List.length_replicate]; decide) new_rootsRd (by rw [new_log]) kNew_good.1

/-- alive -/
theorem lw_alive (w : World) : Does Tryz.prog 9 [] w fun v w' => v = .bool true ∧ Ext w w' := by
  obtain ⟨g1, g2, g3, g4⟩ := S0_good
  obtain ⟨f1, f2, f3, f4⟩ := S1_good
  refine does1 TryzT_ok Tryz.func9 Tryz.call9 Tryz.ntmps9 Tryz.results9 ?_
  conv => whnf
  refine cl (kp_need w) ?_
  rintro v w1 ⟨rfl, rfl⟩
  conv => whnf
  refine cl (disk_new w1 354) ?_
  rintro v w2 ⟨d, rfl, hd, hx2⟩
  conv => whnf
  refine cl (lw_open (B0 := w1.heap.size) (.inr ⟨_, hx2.size, hd⟩) hx2.size hd) ?_
  rintro v w3 ⟨p, rfl, h3, m3⟩
  have X3 : Ext w1 w3 := hx2.then m3 fun b hb => hb.1
  conv => whnf
  refine cl (lw_num w3 0) ?_
  rintro v w4 ⟨rfl, rfl⟩
  conv => whnf
  refine Cmp.no (by simp) ?_
  conv => whnf
  refine cl (kp_epoch h3) ?_
  rintro v w5 ⟨rfl, rfl⟩
  conv => whnf
  refine bs (sz := 13) TryzT_ok ?_
  conv => whnf
  refine ⟨rfl, fun b6 w6 ho6 hs6 hx6 => ?_⟩
  have X6 := X3.trans hx6
  conv => whnf
  refine cl (kp_do (h3.ext hx6) X6.size g4 (by omega) (effs1 (e := eMk) ho6) (by simp)) ?_
  rintro v w7 ⟨rfl, h7, m7⟩
  have X7 : Ext w1 w7 := X6.then m7 fun b hb => hb.1
  rw [f1, g3]
  rw [← S1_eq] at h7
  conv => whnf
  refine Cmp.yes (by simp) ?_
  conv => whnf
  refine cl (lw_num w7 0) ?_
  rintro v w8 ⟨rfl, rfl⟩
  conv => whnf
  refine Cmp.yes (by simp) ?_
  conv => whnf
  refine cl (kp_state h7 f4.st) ?_
  rintro v w9 ⟨c9, rfl, ⟨a9, k9, rfl, ho9⟩, hx9⟩
  have hl : S1.st.objs.length = 1 := by rw [f3]; rfl
  conv => whnf
  refine Cmp.yes ?_ ?_
  · rw [hl]; rfl
  conv => whnf
  exact ⟨rfl, X7.trans hx9⟩

def t8 : ByteArray := ⟨#[97, 98, 99, 100, 101, 102, 103, 104]⟩
def t10 : ByteArray := ⟨#[97, 98, 99, 100, 101, 102, 103, 104, 105, 106]⟩
def keyF (i : Nat) : ByteArray := t8.extract (i / 10) (i / 10 + 1) ++ t10.extract (i % 10) (i % 10 + 1)
theorem keyF_data : ∀ i < 80, (keyF i).data.toList = [UInt8.ofNat (97 + i / 10), UInt8.ofNat (97 + i % 10)] := by decide +kernel
theorem keyF_size {i : Nat} (h : i < 80) : (keyF i).size = 2 := by
  have := congrArg List.length (keyF_data i h)
  simpa using this
theorem keyF_lt {i j : Nat} (hi : i < 80) (h : j < i) : kcmp (keyF j) (keyF i) = -1 := by
  unfold kcmp
  rw [if_pos]
  unfold ltB
  rw [ByteArray.toList_eq, ByteArray.toList_eq, keyF_data j (by omega), keyF_data i hi]
  simp only [Op.bytesLess, Bool.and_false, Bool.or_false, Bool.or_eq_true, Bool.and_eq_true, decide_eq_true_eq, beq_iff_eq, UInt8.lt_iff_toNat_lt, ← UInt8.toNat_inj, UInt8.toNat_ofNat']
  omega
def valF (n : Nat) : ByteArray := ⟨⟨List.replicate n 0⟩⟩
theorem valF_size (n : Nat) : (valF n).size = n := by simp [valF, ByteArray.size]
def rowF (n i : Nat) : Row := ⟨keyF i, valF n⟩
def rowsF (n m : Nat) : List Row := (List.range m).map (rowF n)
theorem rowsF_get {n m i : Nat} {x : Row} (h : (rowsF n m)[i]? = some x) : x = rowF n i ∧ i < m := by
  unfold rowsF at h
  rw [List.getElem?_map] at h
  cases hr : (List.range m)[i]? with
  | none => rw [hr] at h; cases h
  | some j =>
    rw [hr] at h
    have := List.getElem?_eq_some_iff.1 hr
    obtain ⟨h1, h2⟩ := this
    simp at h1 h2 h
    subst h2
    exact ⟨h.symm, h1⟩
theorem rowsF_len (n m : Nat) : (rowsF n m).length = m := by simp [rowsF]
theorem rowsF_put {n m : Nat} (hm : m < 80) : rPut (rowsF n m) (rowF n m) = rowsF n (m + 1) := by
  have hf : rFind (rowsF n m) (keyF m) = (m, false) := by
    rw [rFind_none fun j y hy => by
      obtain ⟨rfl, hj⟩ := rowsF_get hy
      show kcmp (keyF j) (keyF m) < 0
      rw [keyF_lt hm hj]; decide]
    rw [rowsF_len]
  unfold rPut
  rw [show (rowF n m).key = keyF m from rfl, hf]
  simp only [Bool.false_eq_true, if_false]
  rw [List.take_of_length_le (by rw [rowsF_len]; exact Nat.le_refl _), List.drop_of_length_le (by rw [rowsF_len]; exact Nat.le_refl _)]
  simp [rowsF, List.range_succ]
theorem stT_right {n m : Nat} (hm : m ≤ 80) (hn : n ≤ 100) : sRight (stT (rowsF n m)) = true := by
  have h1 : rRises (rowsF n m) = true := by
    rw [rRises_alt]
    intro i a b ha hb
    obtain ⟨rfl, _⟩ := rowsF_get ha
    obtain ⟨rfl, hi⟩ := rowsF_get hb
    show kcmp (keyF i) (keyF (i + 1)) < 0
    rw [keyF_lt (by omega) (by omega)]; decide
  have h2 : (rowsF n m).all rRight = true := by
    rw [List.all_eq_true]
    intro x hx
    obtain ⟨i, hi⟩ := List.getElem?_of_mem hx
    obtain ⟨rfl, hi⟩ := rowsF_get hi
    show (kRight (keyF i) && decide ((valF n).size ≤ 100)) = true
    unfold kRight
    rw [keyF_size (by omega), valF_size]
    simp [hn]
  have h3 : oRight (oT (rowsF n m)) = true := by
    unfold oRight
    rw [if_pos (show (oT (rowsF n m)).kind = 1 from rfl)]
    show (oRight0 tT 1 0 && (true && true && rRises (rowsF n m) && (rowsF n m).all rRight)) = true
    rw [h1, h2]; rfl
  unfold sRight
  show (decide _ && (oRight (oT (rowsF n m)) && true && true) && true) = true
  rw [h3]; rfl
def eP (n i : Nat) : Eff := ⟨2, tT, keyF i, valF n, 0, 0, false, m0⟩
theorem eP_right {n i : Nat} (hi : i < 80) (hn : n ≤ 100) : eRight (eP n i) = true := by
  have h1 : eP n i = eNamed (eP n i) := rfl
  unfold eRight
  rw [decide_eq_true h1]
  show (nRight tT && (kRight (keyF i) && decide ((valF n).size ≤ 100))) = true
  unfold kRight
  rw [keyF_size hi, valF_size]
  simp [hn]; rfl
theorem stT_put {n m : Nat} (hm : m < 80) (hn : n ≤ 100) : sApply (stT (rowsF n m)) [eP n m] = (0, stT (rowsF n (m + 1))) := by
  have hd : sDo (stT (rowsF n m)) (eP n m) = (0, stT (rowsF n (m + 1))) := by
    unfold sDo
    rw [eP_right hm hn, if_neg (by decide), if_neg (show ¬ (eP n m).kind = 1 from (by decide : ¬ (2 : Int) = 1)), if_neg (show ¬ (eP n m).kind = 8 from (by decide : ¬ (2 : Int) = 8))]
    have hf : sFind (stT (rowsF n m)).objs (eP n m).obj = 0 := rfl
    rw [hf, if_neg (by decide)]
    have hg : (stT (rowsF n m)).objs.getD (0 : Int).toNat o0 = oT (rowsF n m) := rfl
    simp only [hg]
    rw [if_neg (show ¬ decide ((eP n m).kind = 2 ∨ (eP n m).kind = 3) ≠ decide ((oT (rowsF n m)).kind = 1) from (by decide : ¬ decide ((2 : Int) = 2 ∨ (2 : Int) = 3) ≠ decide ((1 : Int) = 1)))]
    have ht : oTable (oT (rowsF n m)) (eP n m) = (0, oT (rPut (rowsF n m) (rowF n m))) := rfl
    have hk : decide ((eP n m).kind = 2 ∨ (eP n m).kind = 3) = true := rfl
    rw [hk, if_pos rfl, ht, rowsF_put hm]
    rfl
  unfold sApply
  rw [stT_right (by omega) hn, if_neg (by decide)]
  have hs : sDos (stT (rowsF n m)) [eP n m] = (0, stT (rowsF n (m + 1))) := by
    unfold sDos; rw [hd]; rfl
  rw [hs]; rfl
theorem stT_size {n m : Nat} (hm : m ≤ 80) : sSize (stT (rowsF n m)) = 67 + m * (22 + n) := by
  have h : ((rowsF n m).map rSize).sum = m * (22 + n) := by
    induction m with
    | zero => simp [rowsF]
    | succ m ih =>
      have e : rowsF n (m + 1) = rowsF n m ++ [rowF n m] := by simp [rowsF, List.range_succ]
      rw [e, List.map_append, List.sum_append, ih (by omega)]
      simp only [List.map_cons, List.map_nil, List.sum_cons, List.sum_nil, rSize, rowF, keyF_size (show m < 80 by omega), valF_size]
      rw [Int.natCast_add, Int.add_mul]; omega
  show 16 + ((50 + 1 + ((rowsF n m).map rSize).sum + 0) + 0) = _
  rw [h]; omega
theorem encP_len {n i : Nat} (hi : i < 80) (hn : n ≤ 100) : (encEs [eP n i]).length ≤ 10176 := by
  unfold encEs
  simp only [List.flatMap_cons, List.flatMap_nil, List.append_nil, List.length_append, encI_len, encE, encM, encF_len, encT_len]
  show _ + _ ≤ _
  simp only [eP, keyF_size hi, valF_size]
  have : tT.size = 1 := rfl
  have : m0.corr.size = 0 := rfl
  have : m0.body.size = 0 := rfl
  omega

/-- where the store is behind i rows -/
structure KF (n i : Nat) (S : KSt) : Prop where
  g : KG (2 + i) S
  st : S.st = stT (rowsF n i)
  ok : KOk (12294 + 8196 * i) S
theorem KF.zero (n : Nat) : KF n 0 S1 := by
  obtain ⟨f1, f2, f3, f4⟩ := S1_good
  exact ⟨f2, f3, f4⟩
theorem KF.next {n i : Nat} {S : KSt} (h : KF n i S) (hi : i < 80) (hn : n ≤ 100) :
    (67 + ((i : Int) + 1) * (22 + n) ≤ 6000 → (kDo S [eP n i]).1 = 0 ∧ KF n (i + 1) (kDo S [eP n i]).2) ∧ (6000 < 67 + ((i : Int) + 1) * (22 + n) → kDo S [eP n i] = (9, S)) := by
  have hp := stT_put (n := n) hi hn
  have ha : sApply S.st [eP n i] = (0, stT (rowsF n (i + 1))) := by rw [h.st]; exact hp
  have hs := stT_size (n := n) (m := i + 1) (by omega)
  rw [show ((i + 1 : Nat) : Int) = (i : Int) + 1 from by omega] at hs
  refine ⟨fun hle => ?_, fun hgt => ?_⟩
  · obtain ⟨a1, a2, a3, _⟩ := kDo_good h.g (by omega) (l := [eP n i]) (by simp) (encP_len hi hn) (by rw [ha]) (by rw [ha, hs]; exact hle)
    refine ⟨a1, ⟨a2.mono (by omega), by rw [a3, ha], ?_⟩⟩
    have := kDo_ok h.ok [eP n i]
    rw [show 12294 + 8196 * (i + 1) = 12294 + 8196 * i + 8196 from by omega]; exact this
  · exact kDo_full h.g.dead (by rw [ha]) (by rw [ha, hs]; exact hgt)
end Go.Pst

namespace Go.Pst
open Go Go.Proofs

theorem Chg.thenM {B0 : Nat} {S : List Nat} {w w1 w2 : World} (h : Ext w w1) (h' : Mod (fun b => B0 ≤ b) S w1 w2) (hB : w.heap.size ≤ B0) : Ext w w2 := h.then h' fun b hb => Nat.le_trans hB hb.1

set_option maxRecDepth 8000 in
/-- KeepFull -/
theorem lw_full (w : World) (rows size : Int) : Does Tryz.prog 4 [.int .i64 rows, .int .i64 size] w fun v w' => v = .bool true ∧ Ext w w' := by
  obtain ⟨g1, g2, g3, g4⟩ := S0_good
  obtain ⟨f1, f2, f3, f4⟩ := S1_good
  refine does1 TryzT_ok Tryz.func4 Tryz.call4 Tryz.ntmps4 Tryz.results4 ?_
  conv => whnf
  refine cl (lw_alive w) ?_
  rintro v w1 ⟨rfl, X1⟩
  conv => whnf
  refine Cmp.dec (fun k1 => ?_) (fun k1 => ?_)
  · conv => whnf
    exact ⟨rfl, X1⟩
  conv => whnf
  refine Cmp.dec (fun k2 => ?_) (fun k2 => ?_)
  · conv => whnf
    exact ⟨rfl, X1⟩
  conv => whnf
  refine Cmp.dec (fun k3 => ?_) (fun k3 => ?_)
  · conv => whnf
    exact ⟨rfl, X1⟩
  conv => whnf
  refine Cmp.dec (fun k4 => ?_) (fun k4 => ?_)
  · conv => whnf
    exact ⟨rfl, X1⟩
  obtain ⟨n, rfl⟩ : ∃ n : Nat, size = n := ⟨size.toNat, by omega⟩
  obtain ⟨m, rfl⟩ : ∃ m : Nat, rows = m := ⟨rows.toNat, by omega⟩
  have hn : n ≤ 100 := by omega
  have hm : m ≤ 80 := by omega
  conv => whnf
  refine cl (kp_need w1) ?_
  rintro v w2 ⟨rfl, rfl⟩
  conv => whnf
  refine cl (disk_new w2 354) ?_
  rintro v w3 ⟨d, rfl, hd, hx3⟩
  have X3 := X1.trans hx3
  conv => whnf
  refine cl (lw_open (B0 := w2.heap.size) (.inr ⟨_, hx3.size, hd⟩) hx3.size hd) ?_
  rintro v w4 ⟨p, rfl, h4, m4⟩
  have hB : w.heap.size ≤ w2.heap.size := X1.size
  have X4 : Ext w w4 := X3.thenM m4 hB
  have z4 : w2.heap.size ≤ w4.heap.size := Nat.le_trans hx3.size m4.size
  conv => whnf
  refine cl (lw_num w4 0) ?_
  rintro v w5 ⟨rfl, rfl⟩
  conv => whnf
  refine Cmp.no (by simp) ?_
  conv => whnf
  refine bs (sz := 13) TryzT_ok ?_
  conv => whnf
  refine ⟨rfl, fun b6 w6 ho6 hs6 hx6 => ?_⟩
  have X6 := X4.trans hx6
  conv => whnf
  refine cl (kp_do (h4.ext hx6) (Nat.le_trans z4 hx6.size) g4 (by omega) (effs1 (e := eMk) ho6) (by simp)) ?_
  rintro v w7 ⟨rfl, h7, m7⟩
  have X7 : Ext w w7 := X6.thenM m7 hB
  have z7 : w2.heap.size ≤ w7.heap.size := Nat.le_trans (Nat.le_trans z4 hx6.size) m7.size
  rw [← S1_eq] at h7
  conv => whnf
  refine Cw.loopD TryzT_ok (ι := Nat) (fun i e w' => i ≤ m ∧ (∃ g', e = fr g' [(0, .int .i64 (m : Int)), (1, .int .i64 (n : Int)), (6, .pointer (some ⟨p, 0, none⟩)), (8, .int .i64 (i : Int))]) ∧ (∃ S, KpR w2.heap.size w' p d S ∧ KF n i S) ∧ Ext w w' ∧ w2.heap.size ≤ w'.heap.size)
    (fun i => m - i) 0 ⟨by omega, mkfr _ ⟨rfl, rfl, rfl, rfl, trivial⟩, ⟨S1, h7, KF.zero n⟩, X7, z7⟩ ?_
  clear h7 X7 z7 h4 X4 z4 X6 hd X3
  rintro i e w8 ⟨hi, ⟨g', rfl⟩, ⟨S, h8, hF⟩, X8, z8⟩
  conv => whnf
  refine Cmp.dec (fun hlt => ?_) (fun hlt => ?_)
  · have hlt : i < m := by omega
    have hb8 := hF.ok.st
    conv => whnf
    refine cl (kp_state h8 hb8) ?_
    rintro v w9 ⟨c9, rfl, ⟨a9, k9, rfl, ho9⟩, hx9⟩
    replace X8 := X8.trans hx9
    replace h8 := h8.ext hx9
    have z9 := Nat.le_trans z8 hx9.size
    conv => whnf
    refine al TryzT_ok ?_
    conv => whnf
    intro q w10a hqa hqs hx10a _
    conv => whnf
    refine stA TryzT_ok hqa ?_
    conv => whnf
    intro w10 hq hqc _
    have hx10 : Ext _ w10 := hx10a.then hqc (fun y hy => by omega)
    clear hqa hqc hx10a
    replace X8 := X8.trans hx10
    replace h8 := h8.ext hx10
    replace ho9 := ho9.ext hx10
    have z10 := Nat.le_trans z9 hx10.size
    conv => whnf
    refine draw TryzT_ok Tryz_mixed (fun w11 hx11 _ => ?_)
    replace X8 := X8.trans hx11
    replace h8 := h8.ext hx11
    replace ho9 := ho9.ext hx11
    replace hq := hq.ext hx11
    have z11 := Nat.le_trans z10 hx11.size
    conv => whnf
    refine quo (a := (i : Int)) (b := 10) (by omega) ?_
    conv => whnf
    refine quo (a := (i : Int)) (b := 10) (by omega) ?_
    conv => whnf
    refine Ar.i (by omega) ?_
    have q1 : (i : Int) / 10 = ((i / 10 : Nat) : Int) := by omega
    have q2 : (i : Int) / 10 + 1 = ((i / 10 + 1 : Nat) : Int) := by omega
    conv => whnf
    refine slT (s := t8) (l := i / 10) (h := i / 10 + 1) TryzT_ok ?_ ?_ (hlo := ?_) (hhi := ?_)
    · exact ⟨by omega, by show _ ≤ 8; omega⟩
    rotate_left
    · show Value.int _ _ = _
      rw [q1]
    · show Value.int _ _ = _
      rw [q2]
    conv => whnf
    refine rem (a := (i : Int)) (b := 10) (by omega) ?_
    conv => whnf
    refine rem (a := (i : Int)) (b := 10) (by omega) ?_
    conv => whnf
    refine Ar.i (by omega) ?_
    have r1 : (i : Int) % 10 = ((i % 10 : Nat) : Int) := by omega
    have r2 : (i : Int) % 10 + 1 = ((i % 10 + 1 : Nat) : Int) := by omega
    conv => whnf
    refine slT (s := t10) (l := i % 10) (h := i % 10 + 1) TryzT_ok ?_ ?_ (hlo := ?_) (hhi := ?_)
    · exact ⟨by omega, by show _ ≤ 10; omega⟩
    rotate_left
    · show Value.int _ _ = _
      rw [r1]
    · show Value.int _ _ = _
      rw [r2]
    have hkey : t8.extract (i / 10) (i / 10 + 1) ++ t10.extract (i % 10) (i % 10 + 1) = keyF i := rfl
    conv => whnf
    refine cat ?_ ?_
    · have := keyF_size (i := i) (by omega)
      rw [← hkey, ByteArray.size_append] at this; omega
    rw [hkey]
    conv => whnf
    refine mk (sz := 1) (n := (n : Int)) TryzT_ok (by omega) (fun b12 w12 ho12 hs12 hx12 => ?_)
    replace X8 := X8.trans hx12
    replace h8 := h8.ext hx12
    replace ho9 := ho9.ext hx12
    replace hq := hq.ext hx12
    rw [Int.toNat_natCast, zeroB] at ho12
    have hob12 : Sl w12 (.slice (some ⟨b12, 0, none⟩) n n) 5 1 (List.replicate n (0 : UInt8)).length (B (List.replicate n 0)) := by rw [List.length_replicate]; exact ho12.sl
    conv => whnf
    refine bts (l := List.replicate n 0) TryzT_ok hob12 ?_
    conv => whnf
    refine bs (sz := 13) TryzT_ok ?_
    conv => whnf
    refine ⟨rfl, fun b13 w13 ho13 hs13 hx13 => ?_⟩
    replace X8 := X8.trans hx13
    replace h8 := h8.ext hx13
    replace ho9 := ho9.ext hx13
    replace hq := hq.ext hx13
    have z13 : w2.heap.size ≤ w13.heap.size := Nat.le_trans (Nat.le_trans z11 hx12.size) hx13.size
    conv => whnf
    refine cl (kp_do h8 z13 hF.ok (by omega) (effs1 (e := eP n i) ho13) (by simp)) ?_
    rintro v w14 ⟨rfl, h14, m14⟩
    replace X8 := X8.thenM m14 hB
    have ho14 := ho9.mod m14 (by decide) (by decide) (by decide)
    have hq14 := hq.kp (m14.kp (by decide))
    have z14 := Nat.le_trans z13 m14.size
    have hN := hF.next (by omega : i < 80) hn
    have hP : 0 ≤ ((i : Int) + 1) * (22 + n) ∧ ((i : Int) + 1) * (22 + n) ≤ 80 * 122 := ⟨Int.mul_nonneg (by omega) (by omega), Int.mul_le_mul (by omega) (by omega) (by omega) (by omega)⟩
    generalize hPe : ((i : Int) + 1) * (22 + n) = P at hN hP
    conv => whnf
    refine Ar.i (by omega) ?_
    conv => whnf
    refine Ar.i (by omega) ?_
    conv => whnf
    refine Ar.to P ?_ ?_
    · rw [hPe]; exact wrap_i64 _ (by omega)
    conv => whnf
    refine Ar.i (by omega) ?_
    conv => whnf
    refine Cmp.dec (fun hfull => ?_) (fun hfull => ?_)
    · have hf := hN.2 (by omega)
      rw [hf] at h14 ⊢
      conv => whnf
      refine cl (lw_num w14 9) ?_
      rintro v w15 ⟨rfl, rfl⟩
      conv => whnf
      refine Cmp.yes (by simp) ?_
      conv => whnf
      refine neB (a := true) (b := true) TryzT_ok (Cmp.no (by simp) ?_)
      conv => whnf
      refine cl (lw_num w15 9) ?_
      rintro v w16 ⟨rfl, rfl⟩
      conv => whnf
      refine Cmp.no (by simp) ?_
      conv => whnf
      refine eqB (a := false) (b := true) TryzT_ok (Cmp.no (by simp) ?_)
      conv => whnf
      refine draw TryzT_ok Tryz_mixed (fun w17 hx17 _ => ?_)
      replace X8 := X8.trans hx17
      replace h14 := h14.ext hx17
      replace ho14 := ho14.ext hx17
      replace hq14 := hq14.ext hx17
      conv => whnf
      refine ldLA TryzT_ok (hq14.cells (off := 0) (vs := cStt S.st a9 k9) (List.prefix_refl _)) ?_
      conv => whnf
      refine cl (kp_state h14 hF.ok.st) ?_
      rintro v w18 ⟨c18, rfl, h18, hx18⟩
      replace X8 := X8.trans hx18
      replace ho14 := ho14.ext hx18
      replace hq14 := hq14.ext hx18
      conv => whnf
      refine ⟨hq14.cells (off := 0) (vs := cStt S.st a9 k9) (List.prefix_refl _), ?_⟩
      conv => whnf
      refine cl (same_state h18 (⟨a9, k9, rfl, ho14⟩ : StC w18 (cStt S.st a9 k9) S.st) (by omega) hb8 hb8) ?_
      rintro v w19 ⟨rfl, hx19⟩
      conv => whnf
      exact ⟨by simp, X8.trans hx19⟩
    · obtain ⟨hf, hF'⟩ := hN.1 (by omega)
      rw [hf]
      conv => whnf
      refine cl (lw_num w14 0) ?_
      rintro v w15 ⟨rfl, rfl⟩
      conv => whnf
      refine Cmp.no (by simp) ?_
      conv => whnf
      refine neB (a := false) (b := false) TryzT_ok (Cmp.no (by simp) ?_)
      conv => whnf
      refine cl (lw_num w15 0) ?_
      rintro v w16 ⟨rfl, rfl⟩
      conv => whnf
      refine Cmp.yes (by simp) ?_
      conv => whnf
      refine eqB (a := true) (b := false) TryzT_ok (Cmp.no (by simp) ?_)
      conv => whnf
      refine Ar.i (by omega) ?_
      conv => whnf
      exact ⟨i + 1, ⟨by omega, mkfr _ ⟨rfl, rfl, rfl, rfl, trivial⟩, ⟨_, h14, hF'⟩, X8, z14⟩, by omega⟩
  · conv => whnf
    exact ⟨rfl, X8⟩
end Go.Pst

namespace Go.Pst
open Go Go.Proofs

section
variable {H : Type} {enc : TypeId × Value → H} {w : World} {base : Nat} {sp : Nat → Bool} {hd : Bool}
theorem one_int {n : Nat} {cs : List Value} {x : DataW H × List MemPlace} (h : DataW.trod enc Tryz.prog w base sp hd n 3 cs = some x) : ∃ a, cs = [.int .i64 a] := by
  obtain ⟨a, h, _⟩ := DataW.trod_int (by kernel_rfl : Tryz.prog.underlying 3 = some (.int .i64)) h; exact ⟨a, h⟩
theorem one_str {n : Nat} {cs : List Value} {x : DataW H × List MemPlace} (h : DataW.trod enc Tryz.prog w base sp hd n 9 cs = some x) : ∃ a, cs = [.string a] := by
  obtain ⟨a, h, _⟩ := DataW.trod_string (by kernel_rfl : Tryz.prog.underlying 9 = some .string) h; exact ⟨a, h⟩
theorem one_bool {n : Nat} {cs : List Value} {x : DataW H × List MemPlace} (h : DataW.trod enc Tryz.prog w base sp hd n 4 cs = some x) : ∃ a, cs = [.bool a] := by
  obtain ⟨a, h, _⟩ := DataW.trod_bool (by kernel_rfl : Tryz.prog.underlying 4 = some .bool) h; exact ⟨a, h⟩
theorem cells_int : Tryz.prog.cellsOf 3 = 1 := by kernel_rfl
theorem cells_str : Tryz.prog.cellsOf 9 = 1 := by kernel_rfl
theorem cells_bool : Tryz.prog.cellsOf 4 = 1 := by kernel_rfl
theorem cells_msg : Tryz.prog.cellsOf 33 = 6 := by kernel_rfl
theorem cells_eff : Tryz.prog.cellsOf 35 = 13 := by kernel_rfl
theorem some_of_lt {α : Type} {xs : List α} {n i : Nat} (h : xs.length = n) (hi : i < n) : ∃ y, xs[i]? = some y := ⟨_, List.getElem?_eq_getElem (by omega)⟩
theorem len6 {α : Type} : ∀ {l : List α}, l.length = 6 → ∃ a b c d e f, l = [a, b, c, d, e, f]
  | [a, b, c, d, e, f], _ => ⟨a, b, c, d, e, f, rfl⟩
theorem len13 {α : Type} {l : List α} (h : l.length = 13) : ∃ a b c d e f g a' b' c' d' e' f', l = [a, b, c, d, e, f, g, a', b', c', d', e', f'] := by
  have h1 : (l.take 7).length = 7 := by simp; omega
  have h2 : (l.drop 7).length = 6 := by simp; omega
  obtain ⟨a', b', c', d', e', f', h2⟩ := len6 h2
  have h3 : (l.take 6).length = 6 := by simp; omega
  obtain ⟨a, b, c, d, e, f, h3⟩ := len6 h3
  have h4 : l[6]? = some (l[6]'(by omega)) := List.getElem?_eq_getElem (by omega)
  refine ⟨a, b, c, d, e, f, l[6]'(by omega), a', b', c', d', e', f', ?_⟩
  refine (List.take_append_drop 6 l).symm.trans ?_
  rw [h3, List.drop_eq_getElem_cons (by omega), h2]; rfl
theorem flat_lenX {α β : Type} {sz : Nat} {C : α → List β} (h : ∀ x, (C x).length = sz) : ∀ l : List α, (l.flatMap C).length = l.length * sz
  | [] => by simp
  | x :: l => by rw [List.flatMap_cons, List.length_append, h, flat_lenX h l, List.length_cons, Nat.add_mul, Nat.one_mul, Nat.add_comm]

/-- what is read as a message is one -/
theorem read_msg {n : Nat} {cs : List Value} {x : DataW H × List MemPlace} (h : DataW.trod enc Tryz.prog w base sp hd n 33 cs = some x) : ∃ m : Msg, cs = cMsg m := by
  obtain ⟨fs, hu, h0, h1, h2, h3, h4, h5, hs⟩ : ∃ fs : Array Field, Tryz.prog.underlying 33 = some (.struct fs) ∧
      (∃ f, fs[0]? = some f ∧ f.type = 3 ∧ f.offset = 0) ∧ (∃ f, fs[1]? = some f ∧ f.type = 3 ∧ f.offset = 1) ∧ (∃ f, fs[2]? = some f ∧ f.type = 3 ∧ f.offset = 2) ∧
      (∃ f, fs[3]? = some f ∧ f.type = 4 ∧ f.offset = 3) ∧ (∃ f, fs[4]? = some f ∧ f.type = 9 ∧ f.offset = 4) ∧ (∃ f, fs[5]? = some f ∧ f.type = 9 ∧ f.offset = 5) ∧ fs.size = 6 :=
    ⟨_, (TryzT_ok.get (t := 33) rfl).und, ⟨_, rfl, rfl, rfl⟩, ⟨_, rfl, rfl, rfl⟩, ⟨_, rfl, rfl, rfl⟩, ⟨_, rfl, rfl, rfl⟩, ⟨_, rfl, rfl, rfl⟩, ⟨_, rfl, rfl, rfl⟩, rfl⟩
  obtain ⟨xs, k, _, _, hl, hxl, hf⟩ := DataW.trod_struct hu h
  rw [cells_msg] at hl
  rw [hs] at hxl
  obtain ⟨v0, v1, v2, v3, v4, v5, rfl⟩ := len6 hl
  · clear hl h
    have G : ∀ {j : Nat} {t o : Nat}, (∃ f, fs[j]? = some f ∧ f.type = t ∧ f.offset = o) → j < 6 → ∃ y, DataW.trod enc Tryz.prog w base sp hd k t (([v0, v1, v2, v3, v4, v5].drop o).take (Tryz.prog.cellsOf t)) = some y := by
      rintro j t o ⟨f, h1, rfl, rfl⟩ hj
      obtain ⟨y, hy⟩ := some_of_lt hxl hj
      exact ⟨y, (hf j f h1).trans hy⟩
    obtain ⟨_, g0⟩ := G h0 (by omega)
    obtain ⟨_, g1⟩ := G h1 (by omega)
    obtain ⟨_, g2⟩ := G h2 (by omega)
    obtain ⟨_, g3⟩ := G h3 (by omega)
    obtain ⟨_, g4⟩ := G h4 (by omega)
    obtain ⟨_, g5⟩ := G h5 (by omega)
    rw [cells_int] at g0 g1 g2
    rw [cells_bool] at g3
    rw [cells_str] at g4 g5
    obtain ⟨a0, e0⟩ := one_int g0
    obtain ⟨a1, e1⟩ := one_int g1
    obtain ⟨a2, e2⟩ := one_int g2
    obtain ⟨a3, e3⟩ := one_bool g3
    obtain ⟨a4, e4⟩ := one_str g4
    obtain ⟨a5, e5⟩ := one_str g5
    simp at e0 e1 e2 e3 e4 e5
    subst e0 e1 e2 e3 e4 e5
    exact ⟨⟨a0, a1, a2, a3, a4, a5⟩, rfl⟩

/-- what is read as an effect is one -/
theorem read_eff {n : Nat} {cs : List Value} {x : DataW H × List MemPlace} (h : DataW.trod enc Tryz.prog w base sp hd n 35 cs = some x) : ∃ m : Eff, cs = cEff m := by
  obtain ⟨fs, hu, h0, h1, h2, h3, h4, h5, h6, h7, hs⟩ : ∃ fs : Array Field, Tryz.prog.underlying 35 = some (.struct fs) ∧
      (∃ f, fs[0]? = some f ∧ f.type = 3 ∧ f.offset = 0) ∧ (∃ f, fs[1]? = some f ∧ f.type = 9 ∧ f.offset = 1) ∧ (∃ f, fs[2]? = some f ∧ f.type = 9 ∧ f.offset = 2) ∧
      (∃ f, fs[3]? = some f ∧ f.type = 9 ∧ f.offset = 3) ∧ (∃ f, fs[4]? = some f ∧ f.type = 3 ∧ f.offset = 4) ∧ (∃ f, fs[5]? = some f ∧ f.type = 3 ∧ f.offset = 5) ∧
      (∃ f, fs[6]? = some f ∧ f.type = 4 ∧ f.offset = 6) ∧ (∃ f, fs[7]? = some f ∧ f.type = 33 ∧ f.offset = 7) ∧ fs.size = 8 :=
    ⟨_, (TryzT_ok.get (t := 35) rfl).und, ⟨_, rfl, rfl, rfl⟩, ⟨_, rfl, rfl, rfl⟩, ⟨_, rfl, rfl, rfl⟩, ⟨_, rfl, rfl, rfl⟩, ⟨_, rfl, rfl, rfl⟩, ⟨_, rfl, rfl, rfl⟩, ⟨_, rfl, rfl, rfl⟩, ⟨_, rfl, rfl, rfl⟩, rfl⟩
  obtain ⟨xs, k, _, _, hl, hxl, hf⟩ := DataW.trod_struct hu h
  rw [cells_eff] at hl
  rw [hs] at hxl
  obtain ⟨v0, v1, v2, v3, v4, v5, v6, v7, v8, v9, va, vb, vc, rfl⟩ := len13 hl
  · clear hl h
    have G : ∀ {j : Nat} {t o : Nat}, (∃ f, fs[j]? = some f ∧ f.type = t ∧ f.offset = o) → j < 8 → ∃ y, DataW.trod enc Tryz.prog w base sp hd k t (([v0, v1, v2, v3, v4, v5, v6, v7, v8, v9, va, vb, vc].drop o).take (Tryz.prog.cellsOf t)) = some y := by
      rintro j t o ⟨f, h1, rfl, rfl⟩ hj
      obtain ⟨y, hy⟩ := some_of_lt hxl hj
      exact ⟨y, (hf j f h1).trans hy⟩
    obtain ⟨_, g0⟩ := G h0 (by omega)
    obtain ⟨_, g1⟩ := G h1 (by omega)
    obtain ⟨_, g2⟩ := G h2 (by omega)
    obtain ⟨_, g3⟩ := G h3 (by omega)
    obtain ⟨_, g4⟩ := G h4 (by omega)
    obtain ⟨_, g5⟩ := G h5 (by omega)
    obtain ⟨_, g6⟩ := G h6 (by omega)
    obtain ⟨_, g7⟩ := G h7 (by omega)
    rw [cells_int] at g0 g4 g5
    rw [cells_str] at g1 g2 g3
    rw [cells_bool] at g6
    rw [cells_msg] at g7
    obtain ⟨a0, e0⟩ := one_int g0
    obtain ⟨a1, e1⟩ := one_str g1
    obtain ⟨a2, e2⟩ := one_str g2
    obtain ⟨a3, e3⟩ := one_str g3
    obtain ⟨a4, e4⟩ := one_int g4
    obtain ⟨a5, e5⟩ := one_int g5
    obtain ⟨a6, e6⟩ := one_bool g6
    obtain ⟨m, e7⟩ := read_msg g7
    simp at e0 e1 e2 e3 e4 e5 e6
    simp [cMsg] at e7
    obtain ⟨f0, f1, f2, f3, f4, f5⟩ := e7
    subst e0 e1 e2 e3 e4 e5 e6 f0 f1 f2 f3 f4 f5
    exact ⟨⟨a0, a1, a2, a3, a4, a5, a6, m⟩, rfl⟩

theorem Cells.app {w : World} {b off : Nat} {xs ys : List Value} (h1 : Cells w b off xs) (h2 : Cells w b (off + xs.length) ys) : Cells w b off (xs ++ ys) := by
  intro j v hj
  rcases Nat.lt_or_ge j xs.length with h | h
  · rw [List.getElem?_append_left h] at hj; exact h1 j v hj
  · rw [List.getElem?_append_right h] at hj
    have := h2 _ v hj
    rw [show off + xs.length + (j - xs.length) = off + j from by omega] at this; exact this
theorem Cells.flat {w : World} {b off sz : Nat} {C : Nat → List Value} : ∀ n, (∀ i < n, (C i).length = sz ∧ Cells w b (off + i * sz) (C i)) → Cells w b off ((List.range n).flatMap C) ∧ ((List.range n).flatMap C).length = n * sz
  | 0, _ => ⟨fun j v hj => by simp at hj, by simp⟩
  | n + 1, h => by
    obtain ⟨h1, h2⟩ := Cells.flat n fun i hi => h i (by omega)
    obtain ⟨h3, h4⟩ := h n (by omega)
    rw [List.range_succ, List.flatMap_append]
    simp only [List.flatMap_cons, List.flatMap_nil, List.append_nil]
    exact ⟨h1.app (by rw [h2]; exact h4), by rw [List.length_append, h2, h3, Nat.add_mul, Nat.one_mul]⟩

theorem add_spot (a : Addr) (i : Nat) (h : a.spot = none) : a.add i = ⟨a.block, a.off + i, none⟩ := by
  obtain ⟨b, o, s⟩ := a; simp only at h; subst h; exact add_none ..
theorem spot_of {w : World} {a : Addr} {v : Value} (h : w.cell? (a.add 0) = some v) : a.spot = none := by
  have e : a.add 0 = a := by unfold Addr.add; simp
  rw [e] at h
  unfold World.cell? at h
  split at h
  · cases hs : a.spot with
    | none => rfl
    | some _ => rw [hs] at h; cases h
  · cases h
/-- a slice of effects that came in -/
theorem open_effs {n : Nat} {v : Value} {x : DataW H × List MemPlace} (hc : v.cells.toList = [v]) (h : DataW.trod enc Tryz.prog w base sp hd n 47 v.cells.toList = some x) :
    ∃ (a : Option Addr) (l : List Eff) (c : Nat), v = .slice a l.length c ∧ SlA w v 13 l.length (l.flatMap cEff) ∧ l.length ≤ c := by
  rw [hc] at h
  rcases Go.Deep.open_slice (by kernel_rfl : Tryz.prog.underlying 47 = some (.slice 35)) h with ⟨h, _⟩ | ⟨a, len, cap, m, k, D, Pl, h, _, hl, _, hm, _, hx⟩
  · simp only [List.cons.injEq, and_true] at h
    subst h
    exact ⟨none, [], 0, rfl, ⟨rfl, fun _ h => (nomatch h), _, _, rfl, Nat.le_refl _, fun _ => rfl, fun p hp => (nomatch hp)⟩, Nat.le_refl _⟩
  · simp only [List.cons.injEq, and_true] at h
    subst h
    have hlm : len ≤ m := by rw [hm]; split <;> omega
    have : ∀ i, i < len → ∃ e : Eff, w.cells? base (a.add (i * 13)) 13 = some (cEff e) := fun i hi => by
      obtain ⟨cs, h1, h2⟩ := hx i (by omega)
      obtain ⟨e, rfl⟩ := read_eff h2
      rw [cells_eff] at h1
      exact ⟨e, h1⟩
    obtain ⟨E, hE⟩ : ∃ E : Nat → Eff, ∀ i, i < len → w.cells? base (a.add (i * 13)) 13 = some (cEff (E i)) :=
      ⟨fun i => if hi : i < len then Classical.choose (this i hi) else ⟨0, e0, e0, e0, 0, 0, false, m0⟩, fun i hi => by simp only [dif_pos hi]; exact Classical.choose_spec (this i hi)⟩
    have hlen : ((List.range len).map E).length = len := by simp
    have hflat : ((List.range len).map E).flatMap cEff = (List.range len).flatMap fun i => cEff (E i) := by rw [List.flatMap_map]
    have one : ∀ e : Eff, ∀ u ∈ cEff e, u.oneCell' = true := fun e => List.all_eq_true.1 rfl
    refine ⟨some a, (List.range len).map E, cap, by rw [hlen], ?_, by rw [hlen]; exact hl⟩
    rw [hlen, hflat]
    refine ⟨?_, fun u hu => ?_, some a, cap, rfl, hl, (fun h => by cases h), fun p hp hn => ?_⟩
    · rw [← hflat, flat_lenX (C := cEff) (sz := 13) (fun _ => rfl), hlen]
    · rw [List.mem_flatMap] at hu
      obtain ⟨i, _, hu⟩ := hu
      exact one _ u hu
    · have hp := (Option.some.inj hp).symm
      subst hp
      have hs : p.spot = none := by
        obtain ⟨_, _, h3⟩ := World.cells?_some (hE 0 hn)
        have := h3 0 (by omega)
        have e : (p.add (0 * 13)).add 0 = p.add 0 := by rw [Nat.zero_mul, Go.Deep.add_add]
        rw [e] at this
        exact spot_of (this.trans (rfl : (cEff (E 0))[0]? = some (.int .i64 (E 0).kind)))
      refine ⟨hs, (Cells.flat (sz := 13) (C := fun i => cEff (E i)) len fun i hi => ⟨rfl, fun j u hj => ?_⟩).1⟩
      obtain ⟨_, _, h3⟩ := World.cells?_some (hE i hi)
      have hj13 : j < 13 := by
        have := (List.getElem?_eq_some_iff.1 hj).1
        simpa using this
      have := h3 j hj13
      rw [Go.Deep.add_add, add_spot _ _ hs, hj] at this
      rw [Nat.add_assoc]; exact this
end

/-- an object of that name there is -/
def hasN (s : Stt) (nm : ByteArray) : Prop := ∃ o ∈ s.objs, o.name = nm
theorem sFind_has {s : Stt} {nm : ByteArray} (h : hasN s nm) : 0 ≤ sFind s.objs nm := by
  obtain ⟨o, ho, rfl⟩ := h
  rcases lIdx_cases (fun x : Obj => decide (x.name = o.name)) s.objs with ⟨_, h2⟩ | ⟨i, x, h1, _⟩
  · have := h2 o ho; simp at this
  · unfold sFind; rw [h1]; omega
theorem oFree_name (o : Obj) (id : Int) (b : Bool) : (oFree o id b).1.name = o.name := by
  unfold oFree; split; · rfl
  split; · rfl
  split; · rfl
  rfl
theorem oTable_name (o : Obj) (e : Eff) : (oTable o e).2.name = o.name := by unfold oTable; split <;> rfl
theorem oQueue_name (s : Stt) (o : Obj) (e : Eff) : (oQueue s o e).2.name = o.name := by
  unfold oQueue
  split
  · split; · rfl
    split <;> rfl
  split; · rfl
  split
  · split <;> rfl
  split
  · exact oFree_name ..
  · rfl
theorem mem_lIns {α : Type} {l : List α} {i : Nat} {x y : α} (h : y ∈ l) : y ∈ lIns l i x := by
  unfold lIns
  rw [← List.take_append_drop i l] at h
  rcases List.mem_append.1 h with h | h
  · exact List.mem_append_left _ h
  · exact List.mem_append_right _ (List.mem_cons_of_mem _ h)
theorem sDo_has {s : Stt} {e : Eff} {nm : ByteArray} (h : hasN s nm) : hasN (sDo s e).2 nm := by
  unfold sDo
  split; · exact h
  split
  · unfold sMake
    split; · exact h
    split; · exact h
    obtain ⟨o, ho, hn⟩ := h
    exact ⟨o, mem_lIns ho, hn⟩
  split
  · split <;> exact h
  split; · exact h
  simp only
  split; · exact h
  obtain ⟨o, ho, hn⟩ := h
  obtain ⟨j, hj⟩ := List.getElem?_of_mem ho
  have hjl := (List.getElem?_eq_some_iff.1 hj).1
  generalize hx : (if decide (e.kind = 2 ∨ e.kind = 3) = true then oTable (s.objs.getD (sFind s.objs e.obj).toNat o0) e else oQueue s (s.objs.getD (sFind s.objs e.obj).toNat o0) e) = x
  have hxn : x.2.name = (s.objs.getD (sFind s.objs e.obj).toNat o0).name := by
    rw [← hx]; split
    · exact oTable_name ..
    · exact oQueue_name ..
  by_cases hji : j = (sFind s.objs e.obj).toNat
  · refine ⟨x.2, ?_, ?_⟩
    · rw [← hji]; exact List.mem_set hjl _
    · rw [hxn, ← hji, List.getD_eq_getElem?_getD, hj]; exact hn
  · refine ⟨o, ?_, hn⟩
    refine List.mem_of_getElem? (i := j) ?_
    rw [List.getElem?_set_ne (by omega)]; exact hj
theorem eMk_has {s : Stt} (h : hasN s tT) : (sDo s eMk).1 = 4 := by
  unfold sDo
  rw [if_neg (by decide), if_pos (by decide)]
  unfold sMake
  rw [if_pos (show 0 ≤ sFind s.objs eMk.obj from sFind_has h)]
theorem sDos_dup {s : Stt} (h : hasN s tT) (x y : List Eff) : (sDos s (x ++ eMk :: y)).1 ≠ 0 := by
  induction x generalizing s with
  | nil =>
    show (sDos s (eMk :: y)).1 ≠ 0
    unfold sDos
    rw [if_neg (by rw [eMk_has h]; decide)]
    show (sDo s eMk).1 ≠ 0
    rw [eMk_has h]; decide
  | cons e x ih =>
    show (sDos s (e :: (x ++ eMk :: y))).1 ≠ 0
    unfold sDos
    split
    · exact ih (sDo_has h)
    · assumption
theorem kDo_dup (x y : List Eff) : (kDo S1 (x ++ eMk :: y)).1 ≠ 0 ∧ (kDo S1 (x ++ eMk :: y)).2 = S1 := by
  obtain ⟨f1, f2, f3, f4⟩ := S1_good
  have h : (sApply S1.st (x ++ eMk :: y)).1 ≠ 0 := by
    rw [f3]
    have := sDos_dup (s := stT []) ⟨oT [], by simp [stT], rfl⟩ x y
    unfold sApply
    rw [if_neg (by decide), if_neg this]; exact this
  rw [kDo_err f2.dead h]; exact ⟨h, rfl⟩
theorem kDo_none : kDo S1 [] = (0, S1) := by
  obtain ⟨f1, f2, f3, f4⟩ := S1_good
  exact kDo_nil f2.dead (by rw [f3]; decide) (by rw [f3]; decide)
def tA : ByteArray := ⟨#[97]⟩
def eA : Eff := ⟨2, tT, tA, e0, 0, 0, false, m0⟩
theorem encA_len : (encEs [eA]).length ≤ 10176 := by decide
theorem kDo_put : (kDo S1 [eA]).1 = 0 ∧ S1.disk.written < (kDo S1 [eA]).2.disk.written := by
  obtain ⟨f1, f2, f3, f4⟩ := S1_good
  obtain ⟨a1, _, _, a4⟩ := kDo_good f2 (by omega) (l := [eA]) (by simp) encA_len (by rw [f3]; decide) (by rw [f3]; decide)
  exact ⟨a1, a4⟩
end Go.Pst

namespace Go.Pst
open Go Go.Proofs

theorem effsA {w : World} {v : Value} {l : List Eff} {c : Nat} (h : Own w v 35 13 l.length (l.flatMap cEff)) : EffsR w v l := h.sl

theorem flat_take13 : ∀ (l : List Eff) (t : Nat), (l.flatMap cEff).take (t * 13) = (l.take t).flatMap cEff
  | [], t => by simp
  | x :: l, 0 => by simp
  | x :: l, t + 1 => by
    rw [List.flatMap_cons, List.take_succ_cons, List.flatMap_cons, List.take_append, ← flat_take13 l t, List.take_of_length_le (by rw [cEff_len]; omega), cEff_len]
    rw [show (t + 1) * 13 - 13 = t * 13 from by omega]
theorem flat_drop13 : ∀ (l : List Eff) (t : Nat), (l.flatMap cEff).drop (t * 13) = (l.drop t).flatMap cEff
  | [], t => by simp
  | x :: l, 0 => by simp
  | x :: l, t + 1 => by
    rw [List.flatMap_cons, List.drop_succ_cons, List.drop_append, ← flat_drop13 l t, List.drop_of_length_le (by rw [cEff_len]; omega), cEff_len, List.nil_append]
    rw [show (t + 1) * 13 - 13 = t * 13 from by omega]
theorem put_in (l : List Eff) {t : Nat} (h : t ≤ l.length) :
    [] ++ ((l.flatMap cEff).drop (0 * 13)).take ((t - 0) * 13) ++ cEff eMk ++ ((l.flatMap cEff).drop (t * 13)).take ((l.length - t) * 13) = (l.take t ++ eMk :: l.drop t).flatMap cEff := by
  have h3 : ((l.drop t).flatMap cEff).take ((l.length - t) * 13) = (l.drop t).flatMap cEff := List.take_of_length_le (by rw [flat_lenX (C := cEff) (sz := 13) (fun _ => rfl), List.length_drop]; omega)
  rw [Nat.zero_mul, List.drop_zero, Nat.sub_zero, flat_take13, flat_drop13, h3]
  simp only [List.nil_append, List.flatMap_append, List.flatMap_cons, List.append_assoc]
theorem put_len (l : List Eff) {t : Nat} (h : t ≤ l.length) : (l.take t ++ eMk :: l.drop t).length = l.length + 1 := by
  simp only [List.length_append, List.length_cons, List.length_take, List.length_drop]; omega

set_option maxRecDepth 8000 in
/-- KeepErrors -/
theorem lw_errors (w : World) (a : Option Addr) (l : List Eff) (c : Nat) (hA : SlA w (.slice a l.length c) 13 l.length (l.flatMap cEff)) (hlc : l.length ≤ c) (at_ : Int) :
    Does Tryz.prog 5 [.slice a l.length c, .int .i64 at_] w fun v w' => v = .bool true ∧ Ext w w' := by
  obtain ⟨g1, g2, g3, g4⟩ := S0_good
  obtain ⟨f1, f2, f3, f4⟩ := S1_good
  refine does1 TryzT_ok Tryz.func5 Tryz.call5 Tryz.ntmps5 Tryz.results5 ?_
  conv => whnf
  refine cl (lw_alive w) ?_
  rintro v w1 ⟨rfl, X1⟩
  conv => whnf
  refine Cmp.dec (fun k1 => ?_) (fun k1 => ?_)
  · conv => whnf
    exact ⟨rfl, X1⟩
  conv => whnf
  refine Cmp.dec (fun k2 => ?_) (fun k2 => ?_)
  · conv => whnf
    exact ⟨rfl, X1⟩
  obtain ⟨q, rfl⟩ : ∃ n : Nat, at_ = n := ⟨at_.toNat, by omega⟩
  have hn : l.length ≤ 10 := by omega
  conv => whnf
  refine cl (kp_need w1) ?_
  rintro v w2 ⟨rfl, rfl⟩
  conv => whnf
  refine cl (disk_new w2 354) ?_
  rintro v w3 ⟨d, rfl, hd, hx3⟩
  have X3 := X1.trans hx3
  conv => whnf
  refine cl (lw_open (B0 := w2.heap.size) (.inr ⟨_, hx3.size, hd⟩) hx3.size hd) ?_
  rintro v w4 ⟨p, rfl, h4, m4⟩
  have hB : w.heap.size ≤ w2.heap.size := X1.size
  have X4 : Ext w w4 := X3.thenM m4 hB
  have z4 : w2.heap.size ≤ w4.heap.size := Nat.le_trans hx3.size m4.size
  conv => whnf
  refine cl (lw_num w4 0) ?_
  rintro v w5 ⟨rfl, rfl⟩
  conv => whnf
  refine Cmp.no (by simp) ?_
  conv => whnf
  refine bs (sz := 13) TryzT_ok ?_
  conv => whnf
  refine ⟨rfl, fun b6 w6 ho6 hs6 hx6 => ?_⟩
  have X6 := X4.trans hx6
  conv => whnf
  refine cl (kp_do (h4.ext hx6) (Nat.le_trans z4 hx6.size) g4 (by omega) (effs1 (e := eMk) ho6) (by simp)) ?_
  rintro v w7 ⟨rfl, h7, m7⟩
  have X7 : Ext w w7 := X6.thenM m7 hB
  have z7 : w2.heap.size ≤ w7.heap.size := Nat.le_trans (Nat.le_trans z4 hx6.size) m7.size
  rw [← S1_eq] at h7
  conv => whnf
  refine cl (kp_state h7 f4.st) ?_
  rintro v w9 ⟨c9, rfl, ⟨a9, k9, rfl, ho9⟩, hx9⟩
  have X := X7.trans hx9
  replace h7 := h7.ext hx9
  have z := Nat.le_trans z7 hx9.size
  clear X7 z7 h4 X4 z4 X6 hd X3
  conv => whnf
  refine al TryzT_ok ?_
  conv => whnf
  intro q9 w10a hqa hqs hx10a _
  conv => whnf
  refine stA TryzT_ok hqa ?_
  conv => whnf
  intro w10 hq hqc _
  have hx10 : Ext _ w10 := hx10a.then hqc (fun y hy => by omega)
  clear hqa hqc hx10a
  replace X := X.trans hx10
  replace h7 := h7.ext hx10
  replace ho9 := ho9.ext hx10
  have z10 := Nat.le_trans z hx10.size
  conv => whnf
  refine Ar.i (by omega) ?_
  conv => whnf
  refine rem (a := (q : Int)) (b := (l.length : Int) + 1) (by omega) ?_
  have hr : (q : Int) % ((l.length : Int) + 1) = ((q % (l.length + 1) : Nat) : Int) := by rw [Int.natCast_emod]; rfl
  have hr2 : q % (l.length + 1) ≤ l.length := by have := Nat.mod_lt q (show 0 < l.length + 1 by omega); omega
  rw [hr]
  generalize q % (l.length + 1) = t at hr2
  conv => whnf
  refine draw TryzT_ok Tryz_mixed (fun w11 hx11 _ => ?_)
  replace X := X.trans hx11
  replace h7 := h7.ext hx11
  replace ho9 := ho9.ext hx11
  replace hq := hq.ext hx11
  have hA11 := hA.ext X
  conv => whnf
  refine slA (a := a) (n := l.length) (c := c) (sz := 13) TryzT_ok 0 t (by omega) ?_
  conv => whnf
  refine slA (a := a) (n := l.length) (c := c) (sz := 13) TryzT_ok t l.length (by omega) ?_
  have c1 := hA11.cut (l := 0) (hh := t) (by omega)
  have c2 := hA11.cut (l := t) (hh := l.length) (by omega)
  conv => whnf
  refine ⟨?_, ?_⟩
  · skip
    conv => whnf
    refine apA TryzT_ok (Own.nil _ _ _) c1 (by omega) (fun a1 k1 w12 hp1 => ?_)
    have hx12 : Ext w11 w12 := hp1.chg.mono fun b _ hb => blkOf_none _ _ _ hb
    have at1 : ∀ b, blkOf (.slice a1 (0 + (t - 0)) k1) b → w11.heap.size ≤ b := fun b hb => (hp1.at_ b hb).resolve_left (blkOf_none _ _ _)
    have ho1 := hp1.own
    conv => whnf
    refine bs (sz := 13) TryzT_ok ?_
    conv => whnf
    refine ⟨rfl, fun b13 w13 ho13 hs13 hx13 => ?_⟩
    replace ho1 := ho1.ext hx13
    have X13 := hx12.trans hx13
    clear hp1
    have hB13 := X13.size
    conv => whnf
    refine ap TryzT_ok ho1 ho13.sl (by omega) (fun a2 k2 w14 hp2 => ?_)
    have X14 : Ext w11 w14 := X13.then hp2.chg at1
    have at2 : ∀ b, blkOf (.slice a2 (0 + (t - 0) + 1) k2) b → w11.heap.size ≤ b := fun b hb => (hp2.at_ b hb).elim (at1 b) (fun h => by omega)
    conv => whnf
    refine apA TryzT_ok hp2.own (c2.ext X14) (by omega) (fun a3 k3 w15 hp3 => ?_)
    have X15 : Ext w11 w15 := X14.then hp3.chg at2
    have own3 := hp3.own
    clear hp2 hp3 X14 X13
    have heff : EffsR w15 (.slice a3 (0 + (t - 0) + 1 + (l.length - t)) k3) (l.take t ++ eMk :: l.drop t) := by
      have e1 := put_in l hr2
      have e2 := put_len l hr2
      have e3 : 0 + (t - 0) + 1 + (l.length - t) = (l.take t ++ eMk :: l.drop t).length := by omega
      rw [e3] at own3 ⊢
      show Sl _ _ _ _ _ _
      rw [← e1]
      exact own3.sl
    replace X := X.trans X15
    replace h7 := h7.ext X15
    replace ho9 := ho9.ext X15
    replace hq := hq.ext X15
    have z15 := Nat.le_trans z10 (Nat.le_trans hx11.size X15.size)
    obtain ⟨n1, n2⟩ := kDo_dup (l.take t) (l.drop t)
    conv => whnf
    refine cl (kp_do h7 z15 f4 (by omega) heff (by rw [put_len l hr2]; omega)) ?_
    rintro v w16 ⟨rfl, h16, m16⟩
    rw [n2] at h16
    replace X := X.thenM m16 hB
    replace ho9 := ho9.mod m16 (by decide) (by decide) (by decide)
    replace hq := hq.kp (m16.kp (by decide))
    have z16 := Nat.le_trans z15 m16.size
    have h16' := h16
    obtain ⟨lp, ax, cx, _, ⟨_, _, _, _, _, hd16, _⟩, _⟩ := h16'
    conv => whnf
    refine cl (disk_writes hd16) ?_
    rintro v w17 ⟨rfl, rfl⟩
    clear hd16
    conv => whnf
    refine draw TryzT_ok Tryz_mixed (fun w18 hx18 _ => ?_)
    replace X := X.trans hx18
    replace h16 := h16.ext hx18
    replace ho9 := ho9.ext hx18
    replace hq := hq.ext hx18
    conv => whnf
    refine cl (lw_num w18 (kDo S1 (l.take t ++ eMk :: l.drop t)).1) ?_
    rintro v w19 ⟨rfl, rfl⟩
    conv => whnf
    refine Cmp.n n1 ?_
    conv => whnf
    refine ldLA TryzT_ok (hq.cells (off := 0) (vs := cStt S1.st a9 k9) (List.prefix_refl _)) ?_
    conv => whnf
    refine cl (kp_state h16 f4.st) ?_
    rintro v w20 ⟨c20, rfl, h20, hx20⟩
    replace X := X.trans hx20
    replace h16 := h16.ext hx20
    replace ho9 := ho9.ext hx20
    replace hq := hq.ext hx20
    conv => whnf
    refine ⟨hq.cells (off := 0) (vs := cStt S1.st a9 k9) (List.prefix_refl _), ?_⟩
    conv => whnf
    refine cl (same_state h20 (⟨a9, k9, rfl, ho9⟩ : StC w20 (cStt S1.st a9 k9) S1.st) (by omega) f4.st f4.st) ?_
    rintro v w21 ⟨rfl, hx21⟩
    rw [decide_eq_true rfl]
    replace X := X.trans hx21
    replace h16 := h16.ext hx21
    have z21 := Nat.le_trans (Nat.le_trans (Nat.le_trans z16 hx18.size) hx20.size) hx21.size
    have hnil : EffsR w21 (.slice none 0 0) [] := Sl.nil _ _ _ _
    conv => whnf
    refine cl (kp_do h16 z21 f4 (by omega) hnil (by simp)) ?_
    rintro v w22 ⟨rfl, h22, m22⟩
    rw [kDo_none] at h22 ⊢
    replace h22 : KpR w2.heap.size w22 p d S1 := h22
    replace X := X.thenM m22 hB
    have z22 := Nat.le_trans z21 m22.size
    conv => whnf
    refine bs (sz := 13) TryzT_ok ?_
    conv => whnf
    refine ⟨rfl, fun b23 w23 ho23 hs23 hx23 => ?_⟩
    replace X := X.trans hx23
    replace h22 := h22.ext hx23
    have z23 := Nat.le_trans z22 hx23.size
    conv => whnf
    refine cl (kp_do h22 z23 f4 (by omega) (effs1 (e := eA) ho23) (by simp)) ?_
    rintro v w24 ⟨rfl, h24, m24⟩
    replace X := X.thenM m24 hB
    obtain ⟨p1, p2⟩ := kDo_put
    rw [p1]
    conv => whnf
    refine cl (lw_num w24 0) ?_
    rintro v w25 ⟨rfl, rfl⟩
    conv => whnf
    refine Cmp.y rfl ?_
    conv => whnf
    refine cl (lw_num w25 0) ?_
    rintro v w26 ⟨rfl, rfl⟩
    conv => whnf
    refine Cmp.y rfl ?_
    obtain ⟨lp, ax, cx, _, ⟨_, _, _, _, _, hd24, _⟩, _⟩ := h24
    conv => whnf
    refine cl (disk_writes hd24) ?_
    rintro v w27 ⟨rfl, rfl⟩
    conv => whnf
    refine Cmp.y p2 ?_
    conv => whnf
    exact ⟨rfl, X⟩
  · skip
    conv => whnf
    refine bs (sz := 13) TryzT_ok ?_
    conv => whnf
    refine ⟨rfl, fun b13 w12 ho13 hs13 hx12 => ?_⟩
    conv => whnf
    refine apA TryzT_ok (Own.nil _ _ _) (c1.ext hx12) (by omega) (fun a1 k1 w13 hp1 => ?_)
    have hx13 : Ext w12 w13 := hp1.chg.mono fun b _ hb => blkOf_none _ _ _ hb
    have at1 : ∀ b, blkOf (.slice a1 (0 + (t - 0)) k1) b → w11.heap.size ≤ b := fun b hb => Nat.le_trans hx12.size ((hp1.at_ b hb).resolve_left (blkOf_none _ _ _))
    have ho1 := hp1.own
    replace ho13 := ho13.ext hx13
    have X13 := hx12.trans hx13
    clear hp1
    have hB13 := X13.size
    conv => whnf
    refine ap TryzT_ok ho1 ho13.sl (by omega) (fun a2 k2 w14 hp2 => ?_)
    have X14 : Ext w11 w14 := X13.then hp2.chg at1
    have at2 : ∀ b, blkOf (.slice a2 (0 + (t - 0) + 1) k2) b → w11.heap.size ≤ b := fun b hb => (hp2.at_ b hb).elim (at1 b) (fun h => by omega)
    conv => whnf
    refine apA TryzT_ok hp2.own (c2.ext X14) (by omega) (fun a3 k3 w15 hp3 => ?_)
    have X15 : Ext w11 w15 := X14.then hp3.chg at2
    have own3 := hp3.own
    clear hp2 hp3 X14 X13
    have heff : EffsR w15 (.slice a3 (0 + (t - 0) + 1 + (l.length - t)) k3) (l.take t ++ eMk :: l.drop t) := by
      have e1 := put_in l hr2
      have e2 := put_len l hr2
      have e3 : 0 + (t - 0) + 1 + (l.length - t) = (l.take t ++ eMk :: l.drop t).length := by omega
      rw [e3] at own3 ⊢
      show Sl _ _ _ _ _ _
      rw [← e1]
      exact own3.sl
    replace X := X.trans X15
    replace h7 := h7.ext X15
    replace ho9 := ho9.ext X15
    replace hq := hq.ext X15
    have z15 := Nat.le_trans z10 (Nat.le_trans hx11.size X15.size)
    obtain ⟨n1, n2⟩ := kDo_dup (l.take t) (l.drop t)
    conv => whnf
    refine cl (kp_do h7 z15 f4 (by omega) heff (by rw [put_len l hr2]; omega)) ?_
    rintro v w16 ⟨rfl, h16, m16⟩
    rw [n2] at h16
    replace X := X.thenM m16 hB
    replace ho9 := ho9.mod m16 (by decide) (by decide) (by decide)
    replace hq := hq.kp (m16.kp (by decide))
    have z16 := Nat.le_trans z15 m16.size
    have h16' := h16
    obtain ⟨lp, ax, cx, _, ⟨_, _, _, _, _, hd16, _⟩, _⟩ := h16'
    conv => whnf
    refine cl (disk_writes hd16) ?_
    rintro v w17 ⟨rfl, rfl⟩
    clear hd16
    conv => whnf
    refine draw TryzT_ok Tryz_mixed (fun w18 hx18 _ => ?_)
    replace X := X.trans hx18
    replace h16 := h16.ext hx18
    replace ho9 := ho9.ext hx18
    replace hq := hq.ext hx18
    conv => whnf
    refine cl (lw_num w18 (kDo S1 (l.take t ++ eMk :: l.drop t)).1) ?_
    rintro v w19 ⟨rfl, rfl⟩
    conv => whnf
    refine Cmp.n n1 ?_
    conv => whnf
    refine ldLA TryzT_ok (hq.cells (off := 0) (vs := cStt S1.st a9 k9) (List.prefix_refl _)) ?_
    conv => whnf
    refine cl (kp_state h16 f4.st) ?_
    rintro v w20 ⟨c20, rfl, h20, hx20⟩
    replace X := X.trans hx20
    replace h16 := h16.ext hx20
    replace ho9 := ho9.ext hx20
    replace hq := hq.ext hx20
    conv => whnf
    refine ⟨hq.cells (off := 0) (vs := cStt S1.st a9 k9) (List.prefix_refl _), ?_⟩
    conv => whnf
    refine cl (same_state h20 (⟨a9, k9, rfl, ho9⟩ : StC w20 (cStt S1.st a9 k9) S1.st) (by omega) f4.st f4.st) ?_
    rintro v w21 ⟨rfl, hx21⟩
    rw [decide_eq_true rfl]
    replace X := X.trans hx21
    replace h16 := h16.ext hx21
    have z21 := Nat.le_trans (Nat.le_trans (Nat.le_trans z16 hx18.size) hx20.size) hx21.size
    have hnil : EffsR w21 (.slice none 0 0) [] := Sl.nil _ _ _ _
    conv => whnf
    refine cl (kp_do h16 z21 f4 (by omega) hnil (by simp)) ?_
    rintro v w22 ⟨rfl, h22, m22⟩
    rw [kDo_none] at h22 ⊢
    replace h22 : KpR w2.heap.size w22 p d S1 := h22
    replace X := X.thenM m22 hB
    have z22 := Nat.le_trans z21 m22.size
    conv => whnf
    refine bs (sz := 13) TryzT_ok ?_
    conv => whnf
    refine ⟨rfl, fun b23 w23 ho23 hs23 hx23 => ?_⟩
    replace X := X.trans hx23
    replace h22 := h22.ext hx23
    have z23 := Nat.le_trans z22 hx23.size
    conv => whnf
    refine cl (kp_do h22 z23 f4 (by omega) (effs1 (e := eA) ho23) (by simp)) ?_
    rintro v w24 ⟨rfl, h24, m24⟩
    replace X := X.thenM m24 hB
    obtain ⟨p1, p2⟩ := kDo_put
    rw [p1]
    conv => whnf
    refine cl (lw_num w24 0) ?_
    rintro v w25 ⟨rfl, rfl⟩
    conv => whnf
    refine Cmp.y rfl ?_
    conv => whnf
    refine cl (lw_num w25 0) ?_
    rintro v w26 ⟨rfl, rfl⟩
    conv => whnf
    refine Cmp.y rfl ?_
    obtain ⟨lp, ax, cx, _, ⟨_, _, _, _, _, hd24, _⟩, _⟩ := h24
    conv => whnf
    refine cl (disk_writes hd24) ?_
    rintro v w27 ⟨rfl, rfl⟩
    conv => whnf
    refine Cmp.y p2 ?_
    conv => whnf
    exact ⟨rfl, X⟩
end Go.Pst

