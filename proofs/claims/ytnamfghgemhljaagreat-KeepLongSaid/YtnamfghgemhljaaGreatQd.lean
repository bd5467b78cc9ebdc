/- What functions of the program do, third part; no conditions. -/
import Derived.Test.YtnamfghgemhljaaGreatQc
namespace Go.Pst
open Go Go.Proofs

/-- state.Right -/
theorem st_rightL {K : Nat} {w : World} {c : List Value} {s : Stt} (h : StC w c s) (hK : K ≤ 1000000000) (hb : 20 < s.objs.length ∨ LB K s) (hl : s.objs.length ≤ 1000000000) :
    Does Tryz.prog 67 [.agg ⟨c⟩] w fun v w' => v = .bool (sRight s) ∧ Ext w w' := by
  have h0 := h
  obtain ⟨a, k, rfl, h⟩ := h
  have X := Chg.refl (M := fun _ => False) w
  have no : ∀ w', Ext w w' → ¬ (1 ≤ s.next ∧ s.next ≤ 1099511627776 ∧ s.objs.length ≤ 20) → Value.bool false = .bool (sRight s) ∧ Ext w w' := fun w' hx hn => by
    unfold sRight; rw [decide_eq_false hn]; exact ⟨rfl, hx⟩
  refine does1 TryzT_ok Tryz.func67 Tryz.call67 Tryz.ntmps67 Tryz.results67 ?_
  conv => whnf
  refine bx ?_
  conv => whnf
  intro p w1 hp _ hx1 _
  replace X := X.trans hx1
  replace h := h.ext hx1
  conv => whnf
  refine ld TryzT_ok hp ?_
  conv => whnf
  refine Cmp.dec (fun h1 => ?_) (fun h1 => ?_)
  · conv => whnf
    exact no _ X (by omega)
  conv => whnf
  refine ld TryzT_ok hp ?_
  conv => whnf
  refine Cmp.dec (fun h2 => ?_) (fun h2 => ?_)
  · conv => whnf
    exact no _ X (by omega)
  conv => whnf
  refine ld TryzT_ok hp ?_
  conv => whnf
  refine Cmp.dec (fun h3 => ?_) (fun h3 => ?_)
  · conv => whnf
    exact no _ X (by omega)
  replace hb := hb.resolve_left (by omega)
  have hR : sRight s = (oRises none s.objs && sOnce s) := by
    unfold sRight; rw [decide_eq_true (show 1 ≤ s.next ∧ s.next ≤ 1099511627776 ∧ s.objs.length ≤ 20 by omega)]; rfl
  rw [hR]
  conv => whnf
  refine ld TryzT_ok hp ?_
  conv => whnf
  refine Cw.loopD TryzT_ok (ι := Nat) (fun i e w' => i ≤ s.objs.length ∧ (∃ g', e = fr g' [(1, .pointer (some ⟨p, 0, none⟩)), (20, .slice a s.objs.length k), (21, .int .i64 (s.objs.length : Int)), (22, .int .i64 (i : Int))]) ∧
    oRises none s.objs = oRises (if i = 0 then none else s.objs[i - 1]?) (s.objs.drop i) ∧ Ext w1 w')
    (fun i => s.objs.length - i) 0 ⟨by omega, mkfr _ ⟨rfl, rfl, rfl, rfl, trivial⟩, rfl, Chg.refl _⟩ ?_
  rintro i e w3 ⟨hi, ⟨g', rfl⟩, hq, X3⟩
  conv => whnf
  refine Cmp.dec (fun hlt => ?_) (fun hlt => ?_)
  · have hlt : i < s.objs.length := by omega
    obtain ⟨o, ho⟩ := getElem?_lt hlt
    have hob := (hb.ob o (List.mem_of_getElem? ho)).mono hK
    have h3 := h.ext X3
    have hp3 := hp.ext X3
    obtain ⟨b, off, c', h4⟩ := h3.some (ne_nil_of_lt hlt)
    cases h4
    obtain ⟨a1, c1, a2, c2, a3, c3, hcs, hop⟩ := h3.at_ ho
    rw [drop_cons ho] at hq
    conv => whnf
    refine ia (sz := 6) TryzT_ok ?_ ?_
    · omega
    conv => whnf
    refine ldA TryzT_ok hcs ?_
    conv => whnf
    refine al TryzT_ok ?_
    conv => whnf
    intro q w4a hq4a hq4s hx4a _
    conv => whnf
    refine stA TryzT_ok hq4a ?_
    conv => whnf
    intro w4 hq4 hq4c _
    have hx4 : Ext _ w4 := hx4a.then hq4c (fun y hy => by omega)
    clear hq4a hq4c hx4a
    replace X3 := X3.trans hx4
    replace hop := hop.ext hx4
    replace hp3 := hp3.ext hx4
    replace h3 := h3.ext hx4
    conv => whnf
    refine draw TryzT_ok Tryz_mixed (fun w5 hx5 _ => ?_)
    replace X3 := X3.trans hx5
    replace hop := hop.ext hx5
    replace hp3 := hp3.ext hx5
    replace h3 := h3.ext hx5
    replace hq4 := hq4.ext hx5
    conv => whnf
    refine ldLA TryzT_ok (cells6 hq4) ?_
    conv => whnf
    refine cl (st_objectL (ObjC.mk hop) hob) ?_
    rintro v w6 ⟨rfl, hx6⟩
    replace X3 := X3.trans hx6
    replace hp3 := hp3.ext hx6
    replace h3 := h3.ext hx6
    replace hq4 := hq4.ext hx6
    cases hor : oRight o with
    | false =>
      conv => whnf
      refine ⟨?_, X.trans X3⟩
      rw [hq]; unfold oRises; rw [hor]; rfl
    | true =>
      have next : ∀ w7, Ext w1 w7 → oBehind (if i = 0 then none else s.objs[i - 1]?) o = true → oRises none s.objs = oRises (if i + 1 = 0 then none else s.objs[i + 1 - 1]?) (s.objs.drop (i + 1)) := by
        intro w7 _ hm
        rw [hq]; conv => lhs; unfold oRises
        rw [hor, hm, if_neg (by omega), Nat.add_sub_cancel, ho]; rfl
      conv => whnf
      refine Cmp.dec (fun h5 => ?_) (fun h5 => ?_)
      · have hi0 : i ≠ 0 := by omega
        obtain ⟨y, hy⟩ := getElem?_lt (show i - 1 < s.objs.length by omega)
        rw [if_neg hi0, hy] at hq next
        obtain ⟨x1, y1, x2, y2, x3, y3, hcy, _⟩ := h3.at_ hy
        conv => whnf
        refine ldL TryzT_ok hp3 ?_
        conv => whnf
        refine Ar.i (by omega) ?_
        conv => whnf
        refine ia (sz := 6) TryzT_ok ?_ ?_
        · omega
        have e1 : ((i : Int) - 1).toNat = i - 1 := by omega
        rw [e1]
        conv => whnf
        refine ldLC TryzT_ok (hcy 0 _ rfl) ?_
        conv => whnf
        refine ldL TryzT_ok hq4 ?_
        conv => whnf
        refine cl (or_keys w6 y.name o.name) ?_
        rintro v w7 ⟨rfl, rfl⟩
        conv => whnf
        refine Cmp.dec (fun h6 => ?_) (fun h6 => ?_)
        · conv => whnf
          refine ⟨?_, X.trans X3⟩
          rw [hq]; unfold oRises oBehind
          simp only [decide_eq_false (show ¬ kcmp y.name o.name < 0 by omega), Bool.and_false, Bool.false_and]
        · conv => whnf
          refine Ar.i (by omega) ?_
          conv => whnf
          refine ⟨i + 1, ⟨by omega, mkfr _ ⟨rfl, rfl, rfl, rfl, trivial⟩, next w7 X3 ?_, X3⟩, by omega⟩
          simp only [oBehind, decide_eq_true_eq]; omega
      · have hi0 : i = 0 := by omega
        subst hi0
        conv => whnf
        refine Ar.i (by omega) ?_
        conv => whnf
        exact ⟨0 + 1, ⟨by omega, mkfr _ ⟨rfl, rfl, rfl, rfl, trivial⟩, next w6 X3 rfl, X3⟩, by omega⟩
  · have : i = s.objs.length := by omega
    subst this
    rw [List.drop_length] at hq
    conv => whnf
    refine ldA TryzT_ok ((hp.ext X3).cells (off := 0) (vs := cStt s a k) (List.prefix_refl _)) ?_
    conv => whnf
    refine cl (st_onceL (h0.ext (X.trans X3)) hK hb) ?_
    rintro v w4 ⟨rfl, hx4⟩
    conv => whnf
    rw [hq]
    exact ⟨rfl, (X.trans X3).trans hx4⟩

theorem st_right {K : Nat} {w : World} {c : List Value} {s : Stt} (h : StC w c s) (hK : K ≤ 1000000000) (hb : 20 < s.objs.length ∨ SB K s) (hl : s.objs.length ≤ 1000000000) :
    Does Tryz.prog 67 [.agg ⟨c⟩] w fun v w' => v = .bool (sRight s) ∧ Ext w w' := st_rightL h hK (hb.imp id SB.lb) hl

theorem st_has1 {w : World} {p : Nat} {id : Int} (hp : Blk w p 3 [.int .i64 id]) {c : List Value} {o : Obj} (h : ObjC w c o) (hb : OB 1000000000 o) :
    Does Tryz.prog 224 [.agg ⟨c⟩, .pointer (some ⟨p, 0, none⟩)] w fun v w' => v = .bool (decide (oWhere o id ≠ 0)) ∧ Ext w w' := by
  have h0 := h
  obtain ⟨a1, c1, a2, c2, a3, c3, rfl, h⟩ := h
  refine does1 TryzT_ok Tryz.func224 Tryz.call224 Tryz.ntmps224 Tryz.results224 ?_
  conv => whnf
  refine bx ?_
  conv => whnf
  intro q w1 hq _ hx1 _
  conv => whnf
  refine ldA TryzT_ok (cells6 hq) ?_
  conv => whnf
  refine ld TryzT_ok (hp.ext hx1) ?_
  conv => whnf
  refine cl (dd_where (h0.ext hx1) hb id) ?_
  rintro v w2 ⟨rfl, hx2⟩
  conv => whnf
  refine Cmp.keep ?_
  conv => whnf
  refine ⟨?_, hx1.trans hx2⟩
  congr 1; simp
/-- state.has -/
theorem st_has {K : Nat} {w : World} {c : List Value} {s : Stt} (h : StC w c s) (hK : K ≤ 1000000000) (hb : SB K s) (id : Int) :
    Does Tryz.prog 211 [.agg ⟨c⟩, .int .i64 id] w fun v w' => v = .bool (sHas s.objs id) ∧ Ext w w' := by
  have hlen := hb.objs
  obtain ⟨a, c', rfl, h⟩ := h
  refine does1 TryzT_ok Tryz.func211 Tryz.call211 Tryz.ntmps211 Tryz.results211 ?_
  conv => whnf
  refine bx ?_
  conv => whnf
  intro p w1 hp _ hx1 _
  conv => whnf
  refine bx ?_
  conv => whnf
  intro q w2 hq _ hx2 _
  have X := hx1.trans hx2
  conv => whnf
  refine ld TryzT_ok (hp.ext hx2) ?_
  obtain ⟨cs, hs, hr⟩ := h.ext X
  conv => whnf
  refine cl (con_objs hs (by omega) (fun o => decide (oWhere o id ≠ 0)) (fun i o ho w' X => st_has1 (hq.ext X) ((hr.get ho).1.ext X) ((hb.ob o (List.mem_of_getElem? ho)).mono hK))) ?_
  rintro v w3 ⟨rfl, hx3⟩
  conv => whnf
  exact ⟨rfl, X.trans hx3⟩
end Go.Pst

namespace Go.Pst
open Go Go.Proofs

theorem sum_le {α : Type} {f : α → Int} {l : List α} {B : Int} (h : ∀ x ∈ l, 0 ≤ f x ∧ f x ≤ B) : 0 ≤ (l.map f).sum ∧ (l.map f).sum ≤ l.length * B := by
  induction l with
  | nil => simp
  | cons x l ih =>
    have h1 := h x List.mem_cons_self
    have h2 := ih fun y hy => h y (List.mem_cons_of_mem _ hy)
    simp only [List.map_cons, List.sum_cons, List.length_cons]
    rw [show ((l.length + 1 : Nat) : Int) * B = l.length * B + B from by rw [Int.natCast_add, Int.add_mul]; simp]
    omega
theorem sum_snoc {α : Type} {f : α → Int} {l : List α} {i : Nat} {x : α} (h : l[i]? = some x) : ((l.take (i + 1)).map f).sum = ((l.take i).map f).sum + f x := by
  rw [take_snoc h]; simp
theorem sum_take_le {α : Type} {f : α → Int} {l : List α} {B : Int} (i : Nat) (h : ∀ x ∈ l, 0 ≤ f x ∧ f x ≤ B) (hB : 0 ≤ B) : 0 ≤ ((l.take i).map f).sum ∧ ((l.take i).map f).sum ≤ l.length * B := by
  have := sum_le (l := l.take i) fun x hx => h x (List.mem_of_mem_take hx)
  refine ⟨this.1, Int.le_trans this.2 (Int.mul_le_mul_of_nonneg_right ?_ hB)⟩
  simp; omega
theorem oSize_le {o : Obj} (hb : OB 1000000000 o) (hz : OZ o) : 0 ≤ oSize o ∧ oSize o ≤ 1000000000000 := by
  have h1 := sum_le (f := rSize) (l := o.rows) (B := 160) fun r hr => by have := hz.rows r hr; unfold rSize; omega
  have h2 := sum_le (f := mSize) (l := o.msgs ++ o.dead) (B := 200) fun r hr => by have := hz.msgs r hr; unfold mSize; omega
  have h3 := hz.name
  have h4 := hb.rows
  have h5 := hb.msgs
  have h6 := hb.dead
  rw [List.length_append] at h2
  unfold oSize
  omega

/-- state.Size -/
theorem st_size {K : Nat} {w : World} {c : List Value} {s : Stt} (h : StC w c s) (hK : K ≤ 1000000000) (hb : SB K s) (hz : ∀ o ∈ s.objs, OZ o) :
    Does Tryz.prog 40 [.agg ⟨c⟩] w fun v w' => v = .int .i64 (sSize s) ∧ Ext w w' := by
  have hlen := hb.objs
  obtain ⟨a, k, rfl, h⟩ := h
  have X := Chg.refl (M := fun _ => False) w
  have hall : ∀ o ∈ s.objs, 0 ≤ oSize o ∧ oSize o ≤ 1000000000000 := fun o ho => oSize_le ((hb.ob o ho).mono hK) (hz o ho)
  refine does1 TryzT_ok Tryz.func40 Tryz.call40 Tryz.ntmps40 Tryz.results40 ?_
  conv => whnf
  refine bx ?_
  conv => whnf
  intro p w1 hp _ hx1 _
  replace X := X.trans hx1
  replace h := h.ext hx1
  conv => whnf
  refine ld TryzT_ok hp ?_
  conv => whnf
  refine Cw.loopD TryzT_ok (ι := Nat) (fun i e w' => i ≤ s.objs.length ∧ (∃ g', e = fr g' [(3, .int .i64 (16 + ((s.objs.take i).map oSize).sum)), (11, .slice a s.objs.length k), (12, .int .i64 (s.objs.length : Int)), (13, .int .i64 (i : Int))]) ∧ Ext w1 w')
    (fun i => s.objs.length - i) 0 ⟨by omega, mkfr _ ⟨rfl, rfl, rfl, rfl, trivial⟩, Chg.refl _⟩ ?_
  rintro i e w3 ⟨hi, ⟨g', rfl⟩, X3⟩
  conv => whnf
  refine Cmp.dec (fun hlt => ?_) (fun hlt => ?_)
  · have hlt : i < s.objs.length := by omega
    obtain ⟨o, ho⟩ := getElem?_lt hlt
    have hom := List.mem_of_getElem? ho
    have hob := (hb.ob o hom).mono hK
    have hoz := hz o hom
    have hsum := sum_take_le i hall (by omega)
    have hrow := fun j => sum_take_le (f := rSize) (l := o.rows) (B := 160) j (fun r hr => by have := hoz.rows r hr; unfold rSize; omega) (by omega)
    have hmsg := fun j => sum_take_le (f := mSize) (l := o.msgs ++ o.dead) (B := 200) j (fun r hr => by have := hoz.msgs r hr; unfold mSize; omega) (by omega)
    have hn := hoz.name
    have b1 := hob.rows
    have b2 := hob.msgs
    have b3 := hob.dead
    have h3 := h.ext X3
    obtain ⟨b, off, c', h4⟩ := h3.some (ne_nil_of_lt hlt)
    cases h4
    obtain ⟨a1, c1, a2, c2, a3, c3, hcs, hop⟩ := h3.at_ ho
    conv => whnf
    refine ia (sz := 6) TryzT_ok ?_ ?_
    · omega
    conv => whnf
    refine ldA TryzT_ok hcs ?_
    conv => whnf
    refine al TryzT_ok ?_
    conv => whnf
    intro q w4a hq4a hq4s hx4a _
    conv => whnf
    refine stA TryzT_ok hq4a ?_
    conv => whnf
    intro w4 hq4 hq4c _
    have hx4 : Ext _ w4 := hx4a.then hq4c (fun y hy => by omega)
    clear hq4a hq4c hx4a
    replace X3 := X3.trans hx4
    replace hop := hop.ext hx4
    conv => whnf
    refine ld TryzT_ok hq4 ?_
    conv => whnf
    refine Ar.i (by omega) ?_
    conv => whnf
    refine Ar.i (by omega) ?_
    conv => whnf
    refine ld TryzT_ok hq4 ?_
    generalize hT : 16 + ((s.objs.take i).map oSize).sum = T
    conv => whnf
    refine Cw.loopD TryzT_ok (ι := Nat) (fun j e w' => j ≤ o.rows.length ∧ (∃ g', e = fr g' [(3, .int .i64 (T + (50 + o.name.size) + ((o.rows.take j).map rSize).sum)), (5, .pointer (some ⟨q, 0, none⟩)), (11, .slice (some ⟨b, off, none⟩) s.objs.length k), (12, .int .i64 (s.objs.length : Int)), (13, .int .i64 (i : Int)), (24, .slice a1 o.rows.length c1), (25, .int .i64 (o.rows.length : Int)), (26, .int .i64 (j : Int))]) ∧ Ext w4 w')
      (fun j => o.rows.length - j) 0 ⟨by omega, mkfr _ ⟨by show Value.int _ _ = Value.int _ _; congr 1; simp, rfl, rfl, rfl, rfl, rfl, rfl, rfl, trivial⟩, Chg.refl _⟩ ?_
    rintro j e w5 ⟨hj, ⟨g5, rfl⟩, X5⟩
    have hop5 := hop.ext X5
    have hrj := hrow j
    conv => whnf
    refine Cmp.dec (fun hjt => ?_) (fun hjt => ?_)
    · have hjt : j < o.rows.length := by omega
      obtain ⟨r, hr⟩ := getElem?_lt hjt
      have hrz := hoz.rows r (List.mem_of_getElem? hr)
      have hrr := hop5.rows
      obtain ⟨b8, o8, c8, h8⟩ := hrr.some (ne_nil_of_lt hjt)
      cases h8
      conv => whnf
      refine ia (sz := 2) TryzT_ok ?_ ?_
      · omega
      conv => whnf
      refine ldA TryzT_ok (hrr.cells cRow_len hr) ?_
      conv => whnf
      refine al TryzT_ok ?_
      conv => whnf
      intro t w6a hta hts hx6a _
      conv => whnf
      refine stA TryzT_ok hta ?_
      conv => whnf
      intro w6 ht htc _
      have hx6 : Ext _ w6 := hx6a.then htc (fun y hy => by omega)
      clear hta htc hx6a
      replace X5 := X5.trans hx6
      conv => whnf
      refine ld TryzT_ok ht ?_
      conv => whnf
      refine Ar.i (by omega) ?_
      conv => whnf
      refine ld TryzT_ok ht ?_
      conv => whnf
      refine Ar.i (by omega) ?_
      conv => whnf
      refine Ar.i (by omega) ?_
      conv => whnf
      refine Ar.i (by omega) ?_
      conv => whnf
      refine ⟨j + 1, ⟨by omega, mkfr _ ⟨?_, rfl, rfl, rfl, rfl, rfl, rfl, rfl, trivial⟩, X5⟩, by omega⟩
      show Value.int _ _ = Value.int _ _
      congr 1
      rw [sum_snoc hr]; unfold rSize; omega
    · have : j = o.rows.length := by omega
      subst this
      rw [List.take_length] at hrj ⊢
      conv => whnf
      refine ld TryzT_ok (hq4.ext X5) ?_
      conv => whnf
      refine ld TryzT_ok (hq4.ext X5) ?_
      conv => whnf
      refine bs (sz := 1) TryzT_ok ?_
      conv => whnf
      refine ⟨rfl, fun b6 w6 ho6 hs6 hx6 => ?_⟩
      replace X5 := X5.trans hx6
      replace hop5 := hop5.ext hx6
      conv => whnf
      refine cl (cat_msgs ho6.sl hop5.msgs hop5.dead (by omega) (by omega)) ?_
      rintro v w7 ⟨hL, hx7⟩
      replace X5 := X5.trans hx7
      generalize hLd : o.msgs ++ o.dead = L at hL hmsg
      have hLl : L.length ≤ 2000000000 := by rw [← hLd, List.length_append]; omega
      have hLz : ∀ m ∈ L, m.corr.size ≤ 40 ∧ m.body.size ≤ 100 := by rw [← hLd]; exact hoz.msgs
      obtain ⟨a7, c7, rfl⟩ := hL.isSlice
      conv => whnf
      refine Cw.loopD TryzT_ok (ι := Nat) (fun j e w' => j ≤ L.length ∧ (∃ g', e = fr g' [(3, .int .i64 (T + (50 + o.name.size) + (o.rows.map rSize).sum + ((L.take j).map mSize).sum)), (11, .slice (some ⟨b, off, none⟩) s.objs.length k), (12, .int .i64 (s.objs.length : Int)), (13, .int .i64 (i : Int)), (46, .slice a7 L.length c7), (47, .int .i64 (L.length : Int)), (48, .int .i64 (j : Int))]) ∧ Ext w7 w')
        (fun j => L.length - j) 0 ⟨by omega, mkfr _ ⟨by show Value.int _ _ = Value.int _ _; congr 1; simp, rfl, rfl, rfl, rfl, rfl, rfl, trivial⟩, Chg.refl _⟩ ?_
      rintro j e w8 ⟨hj, ⟨g8, rfl⟩, X8⟩
      have hmj := hmsg j
      have hL8 := hL.ext X8
      conv => whnf
      refine Cmp.dec (fun hjt => ?_) (fun hjt => ?_)
      · have hjt : j < L.length := by omega
        obtain ⟨m, hm⟩ := getElem?_lt hjt
        have hrz := hLz m (List.mem_of_getElem? hm)
        obtain ⟨b8, o8, c8, h8⟩ := hL8.some (ne_nil_of_lt hjt)
        cases h8
        conv => whnf
        refine ia (sz := 6) TryzT_ok ?_ ?_
        · omega
        conv => whnf
        refine ldA TryzT_ok (hL8.cells cMsg_len hm) ?_
        conv => whnf
        refine al TryzT_ok ?_
        conv => whnf
        intro t w9a hta hts hx9a _
        conv => whnf
        refine stA TryzT_ok hta ?_
        conv => whnf
        intro w9 ht htc _
        have hx9 : Ext _ w9 := hx9a.then htc (fun y hy => by omega)
        clear hta htc hx9a
        replace X8 := X8.trans hx9
        conv => whnf
        refine ld TryzT_ok ht ?_
        conv => whnf
        refine Ar.i (by omega) ?_
        conv => whnf
        refine ld TryzT_ok ht ?_
        conv => whnf
        refine Ar.i (by omega) ?_
        conv => whnf
        refine Ar.i (by omega) ?_
        conv => whnf
        refine Ar.i (by omega) ?_
        conv => whnf
        refine ⟨j + 1, ⟨by omega, mkfr _ ⟨?_, rfl, rfl, rfl, rfl, rfl, rfl, trivial⟩, X8⟩, by omega⟩
        show Value.int _ _ = Value.int _ _
        congr 1
        rw [sum_snoc hm]; unfold mSize; omega
      · have : j = L.length := by omega
        subst this
        rw [List.take_length] at hmj ⊢
        conv => whnf
        refine Ar.i (by omega) ?_
        conv => whnf
        refine ⟨i + 1, ⟨by omega, mkfr _ ⟨?_, rfl, rfl, rfl, trivial⟩, (X3.trans X5).trans X8⟩, by omega⟩
        show Value.int _ _ = Value.int _ _
        congr 1
        rw [sum_snoc ho, ← hT]; unfold oSize; rw [hLd]; omega
  · have : i = s.objs.length := by omega
    subst this
    rw [List.take_length]
    conv => whnf
    exact ⟨rfl, X.trans X3⟩

def mClaim (name : ByteArray) (m : Msg) : Eff := ⟨7, name, e0, e0, m.id, 0, true, m0⟩
def oClaims (o : Obj) : List Eff := (o.msgs.filter (·.claimed)).map (mClaim o.name)
theorem sClaims_eq (s : Stt) : sClaims s = s.objs.flatMap oClaims := rfl
/-- one thing more behind a slice of one's own -/
theorem ap1 {α : Type} {enc : α → List Value} {w w' : World} {a a' : Option Addr} {c c' E sz : Nat} {l : List α} {x : α} (hap : Apd w (.slice a l.length c) E sz l.length 1 (l.flatMap enc ++ enc x) (.slice a' (l.length + 1) c') w') :
    Os w' (.slice a' (l ++ [x]).length c') E sz enc (l ++ [x]) := by
  have h := hap.own
  have e1 : (l ++ [x]).length = l.length + 1 := by simp
  have e2 : (l ++ [x]).flatMap enc = l.flatMap enc ++ enc x := by simp
  unfold Os; rw [e1, e2]; exact h

/-- state.Claims -/
theorem st_claims {K : Nat} {w : World} {c : List Value} {s : Stt} (h : StC w c s) (hK : K ≤ 1000000000) (hb : SB K s) :
    Does Tryz.prog 37 [.agg ⟨c⟩] w fun v w' => EffsR w' v (sClaims s) ∧ Ext w w' := by
  have hlen := hb.objs
  obtain ⟨a, k, rfl, h⟩ := h
  have X := Chg.refl (M := fun _ => False) w
  have hcl : ∀ o : Obj, OB K o → (oClaims o).length ≤ 1000000000 := fun o ho => by
    unfold oClaims; rw [List.length_map]; have := List.length_filter_le (fun m : Msg => m.claimed) o.msgs; have := ho.msgs; omega
  have hcnt : ∀ i, ((s.objs.take i).flatMap oClaims).length ≤ i * 1000000000 := fun i => by
    induction i with
    | zero => simp
    | succ i ih =>
      rcases Nat.lt_or_ge i s.objs.length with h | h
      · obtain ⟨o, ho⟩ := getElem?_lt h
        rw [take_snoc ho, List.flatMap_append, List.length_append]
        have := hcl o (hb.ob o (List.mem_of_getElem? ho))
        simp only [List.flatMap_cons, List.flatMap_nil, List.append_nil]; omega
      · have e : s.objs.take (i + 1) = s.objs.take i := by rw [List.take_of_length_le (Nat.le_succ_of_le h), List.take_of_length_le h]
        rw [e]; exact Nat.le_trans ih (Nat.mul_le_mul_right _ (Nat.le_succ i))
  refine does1 TryzT_ok Tryz.func37 Tryz.call37 Tryz.ntmps37 Tryz.results37 ?_
  conv => whnf
  refine bx ?_
  conv => whnf
  intro p w1 hp _ hx1 _
  replace X := X.trans hx1
  replace h := h.ext hx1
  conv => whnf
  refine ld TryzT_ok hp ?_
  conv => whnf
  refine Cw.loopD TryzT_ok (ι := Nat) (fun i e w' => i ≤ s.objs.length ∧ ∃ D a3 c3, D = (s.objs.take i).flatMap oClaims ∧ (∃ g', e = fr g' [(3, .slice a3 D.length c3), (9, .slice a s.objs.length k), (10, .int .i64 (s.objs.length : Int)), (11, .int .i64 (i : Int))]) ∧ Os w' (.slice a3 D.length c3) 35 13 cEff D ∧ Ext w1 w' ∧ ∀ b, blkOf (.slice a3 D.length c3) b → w1.heap.size ≤ b)
    (fun i => s.objs.length - i) 0 ⟨by omega, [], none, 0, rfl, mkfr _ ⟨rfl, rfl, rfl, rfl, trivial⟩, Os.nil _ _ _ _, Chg.refl _, fun b hb => (blkOf_none _ _ _ hb).elim⟩ ?_
  rintro i e w3 ⟨hi, D, a3, c3, hD, ⟨g', rfl⟩, hO, X3, hf⟩
  conv => whnf
  refine Cmp.dec (fun hlt => ?_) (fun hlt => ?_)
  · have hlt : i < s.objs.length := by omega
    obtain ⟨o, ho⟩ := getElem?_lt hlt
    have hob := (hb.ob o (List.mem_of_getElem? ho)).mono hK
    have hcn := hcnt i
    rw [← hD] at hcn
    have b2 := hob.msgs
    have h3 := h.ext X3
    obtain ⟨b, off, c', h4⟩ := h3.some (ne_nil_of_lt hlt)
    cases h4
    obtain ⟨x1, y1, x2, y2, x3, y3, hcs, hop⟩ := h3.at_ ho
    conv => whnf
    refine ia (sz := 6) TryzT_ok ?_ ?_
    · omega
    conv => whnf
    refine ldA TryzT_ok hcs ?_
    conv => whnf
    refine al TryzT_ok ?_
    conv => whnf
    intro q w4a hq4a hq4s hx4a _
    conv => whnf
    refine stA TryzT_ok hq4a ?_
    conv => whnf
    intro w4 hq4 hq4c _
    have hx4 : Ext _ w4 := hx4a.then hq4c (fun y hy => by omega)
    clear hq4a hq4c hx4a
    replace X3 := X3.trans hx4
    replace hop := hop.ext hx4
    replace hO := hO.ext hx4
    conv => whnf
    refine ld TryzT_ok hq4 ?_
    conv => whnf
    refine Cw.loopD TryzT_ok (ι := Nat) (fun j e w' => j ≤ o.msgs.length ∧ ∃ D2 a3 c3, D2 = D ++ ((o.msgs.take j).filter (·.claimed)).map (mClaim o.name) ∧ (∃ g', e = fr g' [(3, .slice a3 D2.length c3), (5, .pointer (some ⟨q, 0, none⟩)), (9, .slice (some ⟨b, off, none⟩) s.objs.length k), (10, .int .i64 (s.objs.length : Int)), (11, .int .i64 (i : Int)), (16, .slice x2 o.msgs.length y2), (17, .int .i64 (o.msgs.length : Int)), (18, .int .i64 (j : Int))]) ∧
      Os w' (.slice a3 D2.length c3) 35 13 cEff D2 ∧ Ext w1 w' ∧ (∀ b, blkOf (.slice a3 D2.length c3) b → w1.heap.size ≤ b) ∧ ObjP w' o x1 y1 x2 y2 x3 y3 ∧ Blk w' q 45 (cObj o x1 y1 x2 y2 x3 y3))
      (fun j => o.msgs.length - j) 0 ⟨by omega, D, a3, c3, by simp, mkfr _ ⟨rfl, rfl, rfl, rfl, rfl, rfl, rfl, rfl, trivial⟩, hO, X3, hf, hop, hq4⟩ ?_
    clear hO hf X3 hop hq4 h3 hcs
    rintro j e w5 ⟨hj, D2, a4, c4, hD2, ⟨g5, rfl⟩, hO, X3, hf, hop, hq4⟩
    have hD2l : D2.length ≤ D.length + 1000000000 := by
      rw [hD2, List.length_append, List.length_map]
      have := List.length_filter_le (fun m : Msg => m.claimed) (o.msgs.take j)
      simp at this; omega
    conv => whnf
    refine Cmp.dec (fun hjt => ?_) (fun hjt => ?_)
    · have hjt : j < o.msgs.length := by omega
      obtain ⟨m, hm⟩ := getElem?_lt hjt
      have hmm := hop.msgs
      obtain ⟨b8, o8, c8, h8⟩ := hmm.some (ne_nil_of_lt hjt)
      cases h8
      conv => whnf
      refine ia (sz := 6) TryzT_ok ?_ ?_
      · omega
      conv => whnf
      refine ldA TryzT_ok (hmm.cells cMsg_len hm) ?_
      conv => whnf
      refine al TryzT_ok ?_
      conv => whnf
      intro t w6a hta hts hx6a _
      conv => whnf
      refine stA TryzT_ok hta ?_
      conv => whnf
      intro w6 ht htc _
      have hx6 : Ext _ w6 := hx6a.then htc (fun y hy => by omega)
      clear hta htc hx6a
      replace X3 := X3.trans hx6
      replace hO := hO.ext hx6
      replace hop := hop.ext hx6
      replace hq4 := hq4.ext hx6
      conv => whnf
      refine ld TryzT_ok ht ?_
      cases hmc : m.claimed with
      | false =>
        conv => whnf
        refine Ar.i (by omega) ?_
        conv => whnf
        exact ⟨j + 1, ⟨by omega, D2, a4, c4, by rw [take_snoc hm, List.filter_append]; simpa [hmc] using hD2, mkfr _ ⟨rfl, rfl, rfl, rfl, rfl, rfl, rfl, rfl, trivial⟩, hO, X3, hf, hop, hq4⟩, by omega⟩
      | true =>
        conv => whnf
        refine ld TryzT_ok hq4 ?_
        conv => whnf
        refine ld TryzT_ok ht ?_
        conv => whnf
        refine bs (sz := 13) TryzT_ok ?_
        conv => whnf
        refine ⟨rfl, fun b7 w7 ho7 hs7 hx7 => ?_⟩
        replace X3 := X3.trans hx7
        replace hO := hO.ext hx7
        replace hop := hop.ext hx7
        replace hq4 := hq4.ext hx7
        conv => whnf
        refine ap TryzT_ok hO ho7.sl (by omega) (fun a9 c9 w9 hap => ?_)
        conv => whnf
        refine Ar.i (by omega) ?_
        conv => whnf
        have hO9 := ap1 (x := mClaim o.name m) hap
        have e1 : (D2 ++ [mClaim o.name m]).length = D2.length + 1 := by simp
        have hk := fun E' (hE : E' ≠ 35) => hap.kp hO hE
        have hat := hap.at_
        rw [← e1] at hat ⊢
        refine ⟨j + 1, ⟨by omega, D2 ++ [mClaim o.name m], a9, c9, by rw [take_snoc hm, List.filter_append, hD2]; simp [hmc], mkfr _ ⟨rfl, rfl, rfl, rfl, rfl, rfl, rfl, rfl, trivial⟩, hO9, X3.then hap.chg hf, fun z hz => ?_,
          ⟨hop.rows.kp (hk _ (by decide)), hop.msgs.kp (hk _ (by decide)), hop.dead.kp (hk _ (by decide))⟩, hq4.kp (hk _ (by decide))⟩, by omega⟩
        rcases hat z hz with h | h
        · exact hf z h
        · have := X3.size; omega
    · have : j = o.msgs.length := by omega
      subst this
      rw [List.take_length] at hD2
      conv => whnf
      refine Ar.i (by omega) ?_
      conv => whnf
      refine ⟨i + 1, ⟨by omega, D2, a4, c4, ?_, mkfr _ ⟨rfl, rfl, rfl, rfl, trivial⟩, hO, X3, hf⟩, by omega⟩
      rw [hD2, hD, take_snoc ho, List.flatMap_append]; simp [oClaims]
  · have : i = s.objs.length := by omega
    subst this
    rw [List.take_length] at hD
    conv => whnf
    subst hD
    exact ⟨hO.ls, X.trans X3⟩
end Go.Pst

namespace Go.Pst
open Go Go.Proofs

/-- variable p holds state s, its row of objects one's own, in blocks from B0 on -/
def StP (B0 : Nat) (w : World) (p : Nat) (s : Stt) : Prop :=
  ∃ a c cs, Blk w p 40 (cStt s a c) ∧ Own w (.slice a s.objs.length c) 45 6 s.objs.length cs ∧ Rep 6 (ObjC w) cs s.objs ∧ B0 ≤ p ∧ ∀ b, blkOf (.slice a s.objs.length c) b → B0 ≤ b
theorem Rep.ext {w w' : World} {cs : List Value} {l : List Obj} (h : Rep 6 (ObjC w) cs l) (hx : Ext w w') : Rep 6 (ObjC w') cs l := h.mono fun _ _ _ h => h.ext hx
theorem Rep.kp {w w' : World} {cs : List Value} {l : List Obj} (h : Rep 6 (ObjC w) cs l) (h1 : Kp 120 w w') (h2 : Kp 33 w w') : Rep 6 (ObjC w') cs l := h.mono fun _ _ _ h => h.kp h1 h2
theorem StP.ext {B0 : Nat} {w w' : World} {p : Nat} {s : Stt} (h : StP B0 w p s) (hx : Ext w w') : StP B0 w' p s := by
  obtain ⟨a, c, cs, h1, h2, h3, h4⟩ := h; exact ⟨a, c, cs, h1.ext hx, h2.ext hx, h3.ext hx, h4⟩
theorem StP.kp {B0 : Nat} {w w' : World} {p : Nat} {s : Stt} (h : StP B0 w p s) (k0 : Kp 40 w w') (k1 : Kp 45 w w') (k2 : Kp 120 w w') (k3 : Kp 33 w w') : StP B0 w' p s := by
  obtain ⟨a, c, cs, h1, h2, h3, h4⟩ := h; exact ⟨a, c, cs, h1.kp k0, h2.kp k1, h3.kp k2 k3, h4⟩
/-- the types of a state's own blocks -/
def SS : List Nat := [40, 45]
theorem ObjsR.of {w : World} {v : Value} {l : List Obj} {cs : List Value} (ho : Own w v 45 6 l.length cs) (hr : Rep 6 (ObjC w) cs l) : ObjsR w v l := ⟨cs, ho.sl, hr⟩

theorem set_same {α : Type} {l : List α} {i : Nat} {x : α} (h : l[i]? = some x) : l.set i x = l := by
  induction l generalizing i with
  | nil => rfl
  | cons y l ih =>
    cases i with
    | zero => simp at h; simp [h]
    | succ i => simp [ih (by simpa using h)]
theorem set_off {full c : List Value} {off j n : Nat} {v : Value} (h : (full.drop off).take n = c) (hl : c.length = n) (hj : j < n) (ho : off ≤ full.length) : full.set (off + j) v = splice full off (c.set j v) := by
  have hd : full.drop off = c ++ full.drop (off + n) := by rw [← List.drop_drop, ← h, List.take_append_drop]
  have e : full = full.take off ++ (c ++ full.drop (off + n)) := by rw [← hd, List.take_append_drop]
  have ht : (full.take off).length = off := by simp; omega
  unfold splice
  rw [List.length_set, hl]
  conv => lhs; rw [e]
  rw [List.set_append_right _ _ (by omega), ht, Nat.add_sub_cancel_left, List.set_append_left _ _ (by omega), List.append_assoc]
theorem splice_splice {full c d : List Value} {off : Nat} (hl : c.length = d.length) (ho : off + c.length ≤ full.length) : splice (splice full off c) off d = splice full off d := by
  unfold splice
  apply List.ext_getElem?
  intro n
  simp only [List.getElem?_append, List.getElem?_take, List.getElem?_drop, List.length_append, List.length_take, List.length_drop]
  grind
theorem splice_take {full c : List Value} {off n : Nat} (hl : c.length = n) (ho : off + n ≤ full.length) : ((splice full off c).drop off).take n = c := by
  subst hl
  have ht : (full.take off).length = off := by simp; omega
  unfold splice
  rw [List.append_assoc]
  conv => lhs; arg 2; rw [List.drop_left' ht]
  rw [List.take_left]
theorem splice_len {full c : List Value} {off : Nat} (ho : off + c.length ≤ full.length) : (splice full off c).length = full.length := by
  unfold splice; simp; omega
theorem set_splice {full c : List Value} {off j n : Nat} {v : Value} (hl : c.length = n) (hj : j < n) (ho : off + n ≤ full.length) : (splice full off c).set (off + j) v = splice full off (c.set j v) := by
  rw [set_off (splice_take hl ho) hl hj (by rw [splice_len (by omega)]; omega)]
  exact splice_splice (by simp) (by omega)
theorem cells_of {w : World} {b off n : Nat} {E : TypeId} {full c : List Value} (hb : Blk w b E full) (h : (full.drop off).take n = c) : Cells w b off c := hb.cells (h ▸ List.take_prefix _ _)

set_option maxRecDepth 8000 in
/-- state.Clone -/
theorem st_clone {K : Nat} {w : World} {c : List Value} {s : Stt} (h : StC w c s) (hK : K ≤ 1000000000) (hb : SB K s) :
    Does Tryz.prog 44 [.agg ⟨c⟩] w fun v w' => ∃ a k cs, v = .agg ⟨cStt s a k⟩ ∧ Own w' (.slice a s.objs.length k) 45 6 s.objs.length cs ∧ Rep 6 (ObjC w') cs s.objs ∧ (∀ b, blkOf (.slice a s.objs.length k) b → w.heap.size ≤ b) ∧ Ext w w' := by
  have hlen := hb.objs
  obtain ⟨a, k, rfl, cs0, hs0, hr0⟩ := h
  have X := Chg.refl (M := fun _ => False) w
  refine doesC1 TryzT_ok Tryz.func44 Tryz.call44 Tryz.ntmps44 Tryz.results44 ?_
  conv => whnf
  refine bx ?_
  conv => whnf
  intro p w1 hp hs1 hx1 _
  replace X := X.trans hx1
  replace hs0 := hs0.ext hx1
  replace hr0 := hr0.ext hx1
  conv => whnf
  refine al TryzT_ok ?_
  conv => whnf
  intro q w2 hq hs2 hx2 _
  replace X := X.trans hx2
  replace hs0 := hs0.ext hx2
  replace hr0 := hr0.ext hx2
  replace hp := hp.ext hx2
  have hpq : p < q := by have := hp.lt; have := hx1.size; omega
  conv => whnf
  refine ld TryzT_ok hp ?_
  conv => whnf
  refine cl (clone_objs hs0 (by omega)) ?_
  rintro v w3 ⟨a3, c3, rfl, hx3, ho3, hf3⟩
  replace X := X.trans hx3
  replace hr0 := hr0.ext hx3
  replace hp := hp.ext hx3
  replace hq := hq.ext hx3
  conv => whnf
  refine st TryzT_ok hp ?_
  conv => whnf
  intro w4 hp4 hc4 hs4
  have X4 : Ext w w4 := X.then hc4 fun y hy => by omega
  have hq4 := hq.chg hc4 (by show ¬ q = p; omega)
  have ho4 := ho3.kp (hc4.kpb hp (by decide))
  have hr4 := hr0.kp (hc4.kpb hp (by decide)) (hc4.kpb hp (by decide))
  have hw2 : w2.heap.size ≤ w3.heap.size := hx3.size
  clear hp hq ho3 X hr0 hc4 hs0
  conv => whnf
  refine ld TryzT_ok hp4 ?_
  conv => whnf
  refine Cw.loopD TryzT_ok (ι := Nat) (fun i e w' => i ≤ s.objs.length ∧ (∃ g', e = fr g' [(1, .pointer (some ⟨p, 0, none⟩)), (2, .pointer (some ⟨q, 0, none⟩)), (11, .int .i64 (s.objs.length : Int)), (12, .int .i64 (i : Int))]) ∧ Blk w' p 40 (cStt s a3 c3) ∧ (∃ cq, Blk w' q 40 cq ∧ cq = [.int .i64 0, .slice none 0 0]) ∧
    (∃ cs, Own w' (.slice a3 s.objs.length c3) 45 6 s.objs.length cs ∧ Rep 6 (ObjC w') cs s.objs) ∧ Ext w w')
    (fun i => s.objs.length - i) 0 ⟨by omega, mkfr _ ⟨rfl, rfl, rfl, rfl, trivial⟩, hp4, ⟨_, hq4, rfl⟩, ⟨_, ho4, hr4⟩, X4⟩ ?_
  clear hp4 hq4 ho4 hr4 X4
  rintro i e w5 ⟨hi, ⟨g', rfl⟩, hp, ⟨cq, hq, hcq⟩, ⟨cs, ho, hr⟩, X⟩
  subst hcq
  conv => whnf
  refine Cmp.dec (fun hlt => ?_) (fun hlt => ?_)
  · have hlt : i < s.objs.length := by omega
    obtain ⟨o, hio⟩ := getElem?_lt hlt
    have hob := (hb.ob o (List.mem_of_getElem? hio)).mono hK
    have b1 := hob.rows
    have b2 := hob.msgs
    have b3 := hob.dead
    obtain ⟨b, off, c', h4⟩ := ho.sl.some (by omega)
    cases h4
    obtain ⟨ho0, rest, hcc, hbk, hrl⟩ := ho.opens
    subst ho0
    have hcl := ho.1
    obtain ⟨⟨x1, y1, x2, y2, x3, y3, hc, hop⟩, _⟩ := hr.get hio
    have hbb : w2.heap.size ≤ b := hf3 b (by simp)
    have hil : i * 6 + 6 ≤ cs.length := by rw [hcl]; omega
    have hc' : ((cs ++ rest).drop (i * 6)).take 6 = cObj o x1 y1 x2 y2 x3 y3 := by
      rw [List.drop_append_of_le_length (by omega), List.take_append_of_le_length (by simp; omega), hc]
    have hcs := cells_of hbk hc'
    conv => whnf
    refine ld TryzT_ok hp ?_
    conv => whnf
    refine ia (sz := 6) TryzT_ok ?_ ?_
    · omega
    have e0 : (0 : Nat) + (i : Int).toNat * 6 = i * 6 := by omega
    rw [e0]
    conv => whnf
    refine draw TryzT_ok Tryz_mixed (fun w6 hx6 _ => ?_)
    replace X := X.trans hx6
    replace hp := hp.ext hx6
    replace hq := hq.ext hx6
    replace ho := ho.ext hx6
    replace hr := hr.ext hx6
    replace hop := hop.ext hx6
    replace hbk := hbk.ext hx6
    have hcs6 := cells_of hbk hc'
    conv => whnf
    refine ldLC TryzT_ok (hcs6 3 _ rfl) ?_
    conv => whnf
    refine ldLC TryzT_ok (hcs6 4 _ rfl) ?_
    conv => whnf
    refine ldLC TryzT_ok (hcs6 5 _ rfl) ?_
    conv => whnf
    refine cl (clone_rows hop.rows (by omega)) ?_
    rintro v w7 ⟨a7, c7, rfl, hx7, ho7, hf7⟩
    replace X := X.trans hx7
    replace hp := hp.ext hx7
    replace hq := hq.ext hx7
    replace ho := ho.ext hx7
    replace hr := hr.ext hx7
    replace hop := hop.ext hx7
    replace hbk := hbk.ext hx7
    have hcs7 := cells_of hbk hc'
    conv => whnf
    refine ⟨hcs7 5 _ rfl, hcs7 4 _ rfl, ?_⟩
    conv => whnf
    refine cl (clone_msgs hop.msgs (by omega)) ?_
    rintro v w8 ⟨a8, c8, rfl, hx8, ho8, hf8⟩
    replace X := X.trans hx8
    replace hp := hp.ext hx8
    replace hq := hq.ext hx8
    replace ho := ho.ext hx8
    replace hr := hr.ext hx8
    replace hop := hop.ext hx8
    replace hbk := hbk.ext hx8
    replace ho7 := ho7.ext hx8
    have hcs8 := cells_of hbk hc'
    conv => whnf
    refine ⟨hcs8 5 _ rfl, ?_⟩
    conv => whnf
    refine cl (clone_msgs hop.dead (by omega)) ?_
    rintro v w9 ⟨a9, c9, rfl, hx9, ho9, hf9⟩
    replace X := X.trans hx9
    replace hp := hp.ext hx9
    replace hq := hq.ext hx9
    replace ho := ho.ext hx9
    replace hr := hr.ext hx9
    replace hop := hop.ext hx9
    replace hbk := hbk.ext hx9
    replace ho7 := ho7.ext hx9
    replace ho8 := ho8.ext hx9
    have hfl : i * 6 + 6 ≤ (cs ++ rest).length := by rw [List.length_append]; omega
    conv => whnf
    refine stR0 (v := .slice a7 o.rows.length c7) TryzT_ok hbk ?_ (fun w10 hb10 hc10 hs10 => ?_)
    · omega
    rw [set_off hc' rfl (by omega) (by omega)] at hb10
    conv => whnf
    refine stR0 (v := .slice a8 o.msgs.length c8) TryzT_ok hb10 ?_ (fun w11 hb11 hc11 hs11 => ?_)
    · rw [splice_len (by simp [cObj]; omega)]; omega
    rw [set_splice (n := 6) rfl (by omega) (by omega)] at hb11
    conv => whnf
    refine stR0 (v := .slice a9 o.dead.length c9) TryzT_ok hb11 ?_ (fun w12 hb12 hc12 hs12 => ?_)
    · rw [splice_len (by simp [cObj]; omega)]; omega
    rw [set_splice (n := 6) rfl (by omega) (by omega)] at hb12
    have hch : Chg (· = b) w9 w12 := (hc10.trans hc11).trans hc12
    have k1 := hch.kpb hbk (E' := 120) (by decide)
    have k2 := hch.kpb hbk (E' := 33) (by decide)
    have k3 := hch.kpb hbk (E' := 40) (by decide)
    have hcells : (((cObj o x1 y1 x2 y2 x3 y3).set 3 (.slice a7 o.rows.length c7)).set 4 (.slice a8 o.msgs.length c8)).set 5 (.slice a9 o.dead.length c9) = cObj o a7 c7 a8 c8 a9 c9 := rfl
    rw [hcells] at hb12
    have hop12 : ObjP w12 o a7 c7 a8 c8 a9 c9 := ⟨ho7.sl.kp k1, ho8.sl.kp k2, ho9.sl.kp k2⟩
    have ho12 := ho.splice hcc hrl hb12 (by simp [cObj]; omega)
    have hr12 := (hr.kp k1 k2).set i hlt (c := cObj o a7 c7 a8 c8 a9 c9) rfl (ObjC.mk hop12)
    have e3 : s.objs.set i o = s.objs := set_same hio
    conv => whnf
    refine Ar.i (by omega) ?_
    conv => whnf
    refine ⟨i + 1, ⟨by omega, mkfr _ ⟨rfl, rfl, rfl, rfl, trivial⟩, hp.kp k3, ⟨_, hq.kp k3, rfl⟩, ⟨_, ho12, e3 ▸ hr12⟩, X.then hch fun y hy => by have := hx1.size; have := hx2.size; omega⟩, by omega⟩
  · conv => whnf
    refine ldA TryzT_ok (hp.cells (off := 0) (vs := cStt s a3 c3) (List.prefix_refl _)) ?_
    conv => whnf
    refine stA TryzT_ok hq ?_
    conv => whnf
    intro w6 hq6 hc6 hs6
    conv => whnf
    refine ⟨_, hq6.cells (off := 0) (vs := cStt s a3 c3) (List.prefix_refl _), rfl, ?_⟩
    exact ⟨a3, c3, cs, rfl, ho.kp (hc6.kpb hq (by decide)), hr.kp (hc6.kpb hq (by decide)) (hc6.kpb hq (by decide)), fun b hb => by have := hf3 b hb; have := hx1.size; have := hx2.size; omega, X.then hc6 fun y hy => by have := hx1.size; omega⟩

theorem Ins.kp {w w' : World} {vs v' : Value} {E sz n m : Nat} {cs cs0 : List Value} (h : Ins w vs E sz n cs v' w') (ho : Own w vs E sz m cs0) {E' : Nat} (hE : E' ≠ E) : Kp E' w w' := fun b c hb =>
  hb.chg h.chg fun hbo => by obtain ⟨c2, h2⟩ := ho.blk hbo; exact hE (hb.inj h2).1
theorem Rep.ins {α : Type} {sz : Nat} {R : List Value → α → Prop} {cs c : List Value} {l : List α} {x : α} (h : Rep sz R cs l) (i : Nat) (hc : c.length = sz) (hx : R c x) : Rep sz R (cs.take (i * sz) ++ c ++ cs.drop (i * sz)) (lIns l i x) := by
  unfold lIns
  rw [List.append_assoc]
  exact (h.take i).append ((Rep.one hc hx).append (h.drop i))

theorem st_make1a {w : World} {p : Nat} {e : Eff} (hp : Blk w p 35 (cEff e)) {c : List Value} {o : Obj} (h : ObjC w c o) :
    Does Tryz.prog 185 [.agg ⟨c⟩, .pointer (some ⟨p, 0, none⟩)] w fun v w' => v = .bool (decide (0 < kcmp o.name e.obj)) ∧ Ext w w' := by
  obtain ⟨a1, c1, a2, c2, a3, c3, rfl, h⟩ := h
  refine does1 TryzT_ok Tryz.func185 Tryz.call185 Tryz.ntmps185 Tryz.results185 ?_
  conv => whnf
  refine bx ?_
  conv => whnf
  intro q w1 hq _ hx1 _
  conv => whnf
  refine ld TryzT_ok hq ?_
  conv => whnf
  refine ld TryzT_ok (hp.ext hx1) ?_
  conv => whnf
  refine cl (or_keys w1 o.name e.obj) ?_
  rintro v w2 ⟨rfl, rfl⟩
  conv => whnf
  refine Cmp.keep ?_
  conv => whnf
  exact ⟨rfl, hx1⟩

/-- state.told -/
theorem st_told (w : World) (ok : Bool) (n : Int) : Does Tryz.prog 190 [.bool ok, .int .i64 n] w fun v w' => v = .int .i64 (told ok n) ∧ w' = w := by
  refine does1 TryzT_ok Tryz.func190 Tryz.call190 Tryz.ntmps190 Tryz.results190 ?_
  cases ok <;> (conv => whnf)
  all_goals exact ⟨rfl, rfl⟩

/-- state.next -/
theorem st_next {B0 : Nat} {w : World} {p : Nat} {s : Stt} (h : StP B0 w p s) (n : Int) :
    Does Tryz.prog 135 [.pointer (some ⟨p, 0, none⟩), .int .i64 n] w fun v w' => v = .int .i64 (if n < s.next then 1 else 0) ∧ StP B0 w' p (if n < s.next then s else { s with next := n }) ∧ Mod (fun b => B0 ≤ b) SS w w' := by
  obtain ⟨a, c, cs, hp, ho, hr, hB⟩ := h
  refine does1 TryzT_ok Tryz.func135 Tryz.call135 Tryz.ntmps135 Tryz.results135 ?_
  conv => whnf
  refine ld TryzT_ok hp ?_
  conv => whnf
  refine Cmp.dec (fun h1 => ?_) (fun h1 => ?_)
  · conv => whnf
    rw [if_pos h1, if_pos h1]
    exact ⟨rfl, ⟨a, c, cs, hp, ho, hr, hB⟩, Mod.refl _ _ _⟩
  · conv => whnf
    refine st TryzT_ok hp ?_
    conv => whnf
    intro w1 hp1 hc1 hs1
    conv => whnf
    rw [if_neg h1, if_neg h1]
    exact ⟨rfl, ⟨a, c, cs, hp1, ho.kp (hc1.kpb hp (by decide)), hr.kp (hc1.kpb hp (by decide)) (hc1.kpb hp (by decide)), hB⟩, hc1.modB hp hB.1 (by decide)⟩

/-- state.make1 -/
theorem st_make1 {B0 : Nat} {w : World} {p : Nat} {s : Stt} (h : StP B0 w p s) (hl : s.objs.length ≤ 20) (hB0 : B0 ≤ w.heap.size) (e : Eff) :
    Does Tryz.prog 134 [.pointer (some ⟨p, 0, none⟩), .agg ⟨cEff e⟩] w fun v w' => v = .int .i64 (sMake s e).1 ∧ StP B0 w' p (sMake s e).2 ∧ Mod (fun b => B0 ≤ b) SS w w' := by
  obtain ⟨a, c, cs, hp, ho, hr, hB1, hB2⟩ := h
  have X := Chg.refl (M := fun _ => False) w
  refine does1 TryzT_ok Tryz.func134 Tryz.call134 Tryz.ntmps134 Tryz.results134 ?_
  conv => whnf
  refine bx ?_
  conv => whnf
  intro q w1 hq _ hx1 _
  replace X := X.trans hx1
  replace hp := hp.ext hx1
  replace ho := ho.ext hx1
  replace hr := hr.ext hx1
  conv => whnf
  refine draw TryzT_ok Tryz_mixed (fun w2 hx2 _ => ?_)
  replace X := X.trans hx2
  replace hp := hp.ext hx2
  replace ho := ho.ext hx2
  replace hr := hr.ext hx2
  replace hq := hq.ext hx2
  conv => whnf
  refine ldLA TryzT_ok (hp.cells (off := 0) (vs := cStt s a c) (List.prefix_refl _)) ?_
  conv => whnf
  refine ldL TryzT_ok hq ?_
  conv => whnf
  refine cl (st_find (⟨a, c, rfl, ObjsR.of ho hr⟩ : StC w2 (cStt s a c) s) (by omega) e.obj) ?_
  rintro v w3 ⟨rfl, hx3⟩
  replace X := X.trans hx3
  replace hp := hp.ext hx3
  replace ho := ho.ext hx3
  replace hr := hr.ext hx3
  replace hq := hq.ext hx3
  unfold sMake
  conv => whnf
  refine Cmp.dec (fun h1 => ?_) (fun h1 => ?_)
  · rw [if_pos h1]
    conv => whnf
    exact ⟨rfl, ⟨a, c, cs, hp, ho, hr, hB1, hB2⟩, X.mod⟩
  rw [if_neg h1]
  conv => whnf
  refine ld TryzT_ok hp ?_
  conv => whnf
  refine Cmp.dec (fun h2 => ?_) (fun h2 => ?_)
  · rw [if_pos (by omega)]
    conv => whnf
    exact ⟨rfl, ⟨a, c, cs, hp, ho, hr, hB1, hB2⟩, X.mod⟩
  rw [if_neg (by omega)]
  conv => whnf
  refine ld TryzT_ok hp ?_
  conv => whnf
  refine cl (idx_objs ho.sl (by omega) (fun o => decide (0 < kcmp o.name e.obj)) (fun i o hio w' X => st_make1a (hq.ext X) ((hr.get hio).1.ext X))) ?_
  rintro v w4 ⟨rfl, hx4⟩
  replace X := X.trans hx4
  replace hp := hp.ext hx4
  replace ho := ho.ext hx4
  replace hr := hr.ext hx4
  replace hq := hq.ext hx4
  have hj : lIdx (fun o => decide (0 < kcmp o.name e.obj)) s.objs = -1 ∨ ∃ i : Nat, lIdx (fun o => decide (0 < kcmp o.name e.obj)) s.objs = i ∧ i ≤ s.objs.length := by
    rcases lIdx_cases (fun o => decide (0 < kcmp o.name e.obj)) s.objs with ⟨h1, _⟩ | ⟨i, x, h1, h2, _⟩
    · exact .inl h1
    · exact .inr ⟨i, h1, by have := lt_of_getElem? h2; omega⟩
  generalize lIdx (fun o => decide (0 < kcmp o.name e.obj)) s.objs = j at hj ⊢
  rcases hj with rfl | ⟨i, rfl, hi⟩
  · simp only []
    rw [if_pos (by omega)]
    conv => whnf
    refine Cmp.y (by omega) ?_
    conv => whnf
    refine ld TryzT_ok hp ?_
    conv => whnf
    refine draw TryzT_ok Tryz_mixed (fun w5 hx5 _ => ?_)
    replace X := X.trans hx5
    replace hp := hp.ext hx5
    replace ho := ho.ext hx5
    replace hr := hr.ext hx5
    replace hq := hq.ext hx5
    conv => whnf
    refine ldL TryzT_ok hp ?_
    conv => whnf
    refine ldL TryzT_ok hq ?_
    conv => whnf
    refine ldL TryzT_ok hq ?_
    conv => whnf
    refine ldL TryzT_ok hq ?_
    conv => whnf
    refine bs (sz := 6) TryzT_ok ?_
    conv => whnf
    refine ⟨rfl, fun b6 w6 ho6 hs6 hx6 => ?_⟩
    have hlt5 : ∀ b, blkOf (.slice a s.objs.length c) b → b < w5.heap.size := fun b hb => (ho.blk hb).choose_spec.lt
    replace X := X.trans hx6
    replace hp := hp.ext hx6
    replace ho := ho.ext hx6
    replace hr := hr.ext hx6
    conv => whnf
    refine ⟨hp.cell 1, ?_⟩
    conv => whnf
    refine cl (ins_objs (i := s.objs.length) ho ho6 (fun b hb hb' => by have := hlt5 b hb'; simp at hb; omega) (Nat.le_refl _) (by omega)) ?_
    rintro v w7 ⟨a7, c7, rfl, hi7⟩
    have hp7 := hp.kp (hi7.kp ho (by decide))
    have hk1 := hi7.kp ho (E' := 120) (by decide)
    have hk2 := hi7.kp ho (E' := 33) (by decide)
    have hm7 : Mod (fun b => B0 ≤ b) SS w w7 := X.mod.trans (hi7.chg.mono fun y _ hy => ⟨hB2 y hy, _, _, (ho.blk hy).choose_spec, by decide⟩)
    have hr7 := (hr.kp hk1 hk2).ins s.objs.length (c := cObj ⟨e.obj, e.n, e.limit, [], [], []⟩ none 0 none 0 none 0) rfl (ObjC.mk ⟨Ls.nil _ _ _ _ _, Ls.nil _ _ _ _ _, Ls.nil _ _ _ _ _⟩)
    conv => whnf
    refine st TryzT_ok hp7 ?_
    conv => whnf
    intro w8 hp8 hc8 hs8
    conv => whnf
    have hl8 := lIns_len (x := (⟨e.obj, e.n, e.limit, [], [], []⟩ : Obj)) (l := s.objs) (i := s.objs.length) (Nat.le_refl _)
    refine ⟨rfl, ⟨a7, c7, _, by unfold cStt; rw [hl8]; exact hp8, by rw [hl8]; exact hi7.own.kp (hc8.kpb hp7 (by decide)), hr7.kp (hc8.kpb hp7 (by decide)) (hc8.kpb hp7 (by decide)), hB1, fun y hy => ?_⟩, hm7.trans (hc8.modB hp7 hB1 (by decide))⟩
    rw [hl8] at hy
    rcases hi7.at_ y hy with h | h
    · exact hB2 y h
    · have := X.size; omega
  · simp only []
    rw [if_neg (by omega), Int.toNat_natCast]
    conv => whnf
    refine Cmp.n (by omega) ?_
    conv => whnf
    refine draw TryzT_ok Tryz_mixed (fun w5 hx5 _ => ?_)
    replace X := X.trans hx5
    replace hp := hp.ext hx5
    replace ho := ho.ext hx5
    replace hr := hr.ext hx5
    replace hq := hq.ext hx5
    conv => whnf
    refine ldL TryzT_ok hp ?_
    conv => whnf
    refine ldL TryzT_ok hq ?_
    conv => whnf
    refine ldL TryzT_ok hq ?_
    conv => whnf
    refine ldL TryzT_ok hq ?_
    conv => whnf
    refine bs (sz := 6) TryzT_ok ?_
    conv => whnf
    refine ⟨rfl, fun b6 w6 ho6 hs6 hx6 => ?_⟩
    have hlt5 : ∀ b, blkOf (.slice a s.objs.length c) b → b < w5.heap.size := fun b hb => (ho.blk hb).choose_spec.lt
    replace X := X.trans hx6
    replace hp := hp.ext hx6
    replace ho := ho.ext hx6
    replace hr := hr.ext hx6
    conv => whnf
    refine ⟨hp.cell 1, ?_⟩
    conv => whnf
    refine cl (ins_objs (i := i) ho ho6 (fun b hb hb' => by have := hlt5 b hb'; simp at hb; omega) hi (by omega)) ?_
    rintro v w7 ⟨a7, c7, rfl, hi7⟩
    have hp7 := hp.kp (hi7.kp ho (by decide))
    have hk1 := hi7.kp ho (E' := 120) (by decide)
    have hk2 := hi7.kp ho (E' := 33) (by decide)
    have hm7 : Mod (fun b => B0 ≤ b) SS w w7 := X.mod.trans (hi7.chg.mono fun y _ hy => ⟨hB2 y hy, _, _, (ho.blk hy).choose_spec, by decide⟩)
    have hr7 := (hr.kp hk1 hk2).ins i (c := cObj ⟨e.obj, e.n, e.limit, [], [], []⟩ none 0 none 0 none 0) rfl (ObjC.mk ⟨Ls.nil _ _ _ _ _, Ls.nil _ _ _ _ _, Ls.nil _ _ _ _ _⟩)
    conv => whnf
    refine st TryzT_ok hp7 ?_
    conv => whnf
    intro w8 hp8 hc8 hs8
    conv => whnf
    have hl8 := lIns_len (x := (⟨e.obj, e.n, e.limit, [], [], []⟩ : Obj)) (l := s.objs) (i := i) hi
    refine ⟨rfl, ⟨a7, c7, _, by unfold cStt; rw [hl8]; exact hp8, by rw [hl8]; exact hi7.own.kp (hc8.kpb hp7 (by decide)), hr7.kp (hc8.kpb hp7 (by decide)) (hc8.kpb hp7 (by decide)), hB1, fun y hy => ?_⟩, hm7.trans (hc8.modB hp7 hB1 (by decide))⟩
    rw [hl8] at hy
    rcases hi7.at_ y hy with h | h
    · exact hB2 y h
    · have := X.size; omega
end Go.Pst

namespace Go.Pst
open Go Go.Proofs

def eOnly (e : Eff) : Eff := ⟨e.kind, e.obj, e0, e0, 0, 0, false, m0⟩

/-- effect.named -/
theorem ef_named (w : World) (e : Eff) : Does Tryz.prog 169 [.agg ⟨cEff e⟩] w fun v w' => v = .agg ⟨cEff (eNamed e)⟩ ∧ Ext w w' := by
  refine doesC1 TryzT_ok Tryz.func169 Tryz.call169 Tryz.ntmps169 Tryz.results169 ?_
  conv => whnf
  refine bx ?_
  conv => whnf
  intro p w1 hp hs1 hx1 _
  conv => whnf
  refine al TryzT_ok ?_
  conv => whnf
  intro q w2 hq hs2 hx2 _
  have hpl := hp.lt
  have hp := hp.ext hx2
  conv => whnf
  refine ld TryzT_ok hp ?_
  conv => whnf
  refine ld TryzT_ok hp ?_
  conv => whnf
  refine al TryzT_ok ?_
  conv => whnf
  intro r w3a hra hrs hx3a _
  conv => whnf
  refine stA TryzT_ok hra ?_
  conv => whnf
  intro w3 hr hrc _
  have hx3 : Ext _ w3 := hx3a.then hrc (fun y hy => by omega)
  clear hra hrc hx3a
  have hpq : p < q := by omega
  have hqr : q < r := by have := hq.lt; omega
  have hwp : w.heap.size ≤ p := by omega
  have X := (hx1.trans hx2).trans hx3
  replace hp := hp.ext hx3
  replace hq := hq.ext hx3
  have hr0 : Blk w3 r 35 (cEff (eOnly e)) := hr
  clear hr hx1 hx2 hx3
  -- the way back
  have fin : ∀ (e' : Eff) (w4 : World), Blk w4 r 35 (cEff e') → Chg (· = r) w3 w4 → eNamed e = e' → ∀ w5, Blk w5 q 35 (cEff e') → Chg (· = q) w4 w5 → Value.agg ⟨cEff e'⟩ = .agg ⟨cEff (eNamed e)⟩ ∧ Ext w w5 := by
    intro e' w4 _ h2 h3 w5 _ h4
    rw [h3]
    exact ⟨rfl, (X.then h2 fun y hy => by omega).then h4 fun y hy => by omega⟩
  have qq : ∀ w4, Chg (· = r) w3 w4 → Blk w4 q 35 (cEff ⟨0, e0, e0, e0, 0, 0, false, m0⟩) := fun w4 h => hq.chg h (by show ¬ q = r; omega)
  have pp : ∀ w4, Chg (· = r) w3 w4 → Blk w4 p 35 (cEff e) := fun w4 h => hp.chg h (by show ¬ p = r; omega)
  conv => whnf
  refine ld TryzT_ok hp ?_
  conv => whnf
  refine Cmp.dec (fun k1 => ?_) (fun k1 => ?_)
  · conv => whnf
    refine draw TryzT_ok Tryz_mixed (fun w4 hx4 _ => ?_)
    conv => whnf
    refine ldL TryzT_ok (hp.ext hx4) ?_
    conv => whnf
    refine ldL TryzT_ok (hp.ext hx4) ?_
    conv => whnf
    refine st TryzT_ok (hr0.ext hx4) ?_
    conv => whnf
    intro w5 hr5 hc5 _
    conv => whnf
    refine ⟨((hp.ext hx4).chg hc5 (by show ¬ p = r; omega)).cell 5, ?_⟩
    conv => whnf
    refine st TryzT_ok hr5 ?_
    conv => whnf
    intro w6 hr6 hc6 _
    have hc : Chg (· = r) w3 w6 := (hx4.up.trans hc5).trans hc6
    have hq6 := qq _ hc
    conv => whnf
    refine ldA TryzT_ok (hr6.cells (off := 0) (vs := cEff { eOnly e with n := e.n, limit := e.limit }) (List.prefix_refl _)) ?_
    conv => whnf
    refine stA TryzT_ok hq6 ?_
    conv => whnf
    intro w7 hq7 hc7 _
    conv => whnf
    refine ⟨_, hq7.cells (off := 0) (vs := cEff { eOnly e with n := e.n, limit := e.limit }) (List.prefix_refl _), rfl, ?_⟩
    exact fin { eOnly e with n := e.n, limit := e.limit } w6 hr6 hc (by unfold eNamed; rw [if_pos k1]; rfl) w7 hq7 hc7
  conv => whnf
  refine Cmp.dec (fun k2 => ?_) (fun k2 => ?_)
  · conv => whnf
    refine draw TryzT_ok Tryz_mixed (fun w4 hx4 _ => ?_)
    conv => whnf
    refine ldL TryzT_ok (hp.ext hx4) ?_
    conv => whnf
    refine ldL TryzT_ok (hp.ext hx4) ?_
    conv => whnf
    refine st TryzT_ok (hr0.ext hx4) ?_
    conv => whnf
    intro w5 hr5 hc5 _
    conv => whnf
    refine ⟨((hp.ext hx4).chg hc5 (by show ¬ p = r; omega)).cell 3, ?_⟩
    conv => whnf
    refine st TryzT_ok hr5 ?_
    conv => whnf
    intro w6 hr6 hc6 _
    have hc : Chg (· = r) w3 w6 := (hx4.up.trans hc5).trans hc6
    have hq6 := qq _ hc
    conv => whnf
    refine ldA TryzT_ok (hr6.cells (off := 0) (vs := cEff { eOnly e with key := e.key, val := e.val }) (List.prefix_refl _)) ?_
    conv => whnf
    refine stA TryzT_ok hq6 ?_
    conv => whnf
    intro w7 hq7 hc7 _
    conv => whnf
    refine ⟨_, hq7.cells (off := 0) (vs := cEff { eOnly e with key := e.key, val := e.val }) (List.prefix_refl _), rfl, ?_⟩
    exact fin { eOnly e with key := e.key, val := e.val } w6 hr6 hc (by unfold eNamed; rw [if_neg k1, if_pos k2]; rfl) w7 hq7 hc7
  conv => whnf
  refine Cmp.dec (fun k3 => ?_) (fun k3 => ?_)
  · conv => whnf
    refine ld TryzT_ok hp ?_
    conv => whnf
    refine st TryzT_ok hr0 ?_
    conv => whnf
    intro w6 hr6 hc _
    have hq6 := qq _ hc
    conv => whnf
    refine ldA TryzT_ok (hr6.cells (off := 0) (vs := cEff { eOnly e with key := e.key }) (List.prefix_refl _)) ?_
    conv => whnf
    refine stA TryzT_ok hq6 ?_
    conv => whnf
    intro w7 hq7 hc7 _
    conv => whnf
    refine ⟨_, hq7.cells (off := 0) (vs := cEff { eOnly e with key := e.key }) (List.prefix_refl _), rfl, ?_⟩
    exact fin { eOnly e with key := e.key } w6 hr6 hc (by unfold eNamed; rw [if_neg k1, if_neg k2, if_pos k3]; rfl) w7 hq7 hc7
  conv => whnf
  refine Cmp.dec (fun k4 => ?_) (fun k4 => ?_)
  · conv => whnf
    refine ldA TryzT_ok (hp.cells (off := 7) (vs := cMsg e.msg) (List.prefix_refl _)) ?_
    conv => whnf
    refine stA TryzT_ok hr0 ?_
    conv => whnf
    intro w6 hr6 hc _
    have hq6 := qq _ hc
    conv => whnf
    refine ldA TryzT_ok (hr6.cells (off := 0) (vs := cEff { eOnly e with msg := e.msg }) (List.prefix_refl _)) ?_
    conv => whnf
    refine stA TryzT_ok hq6 ?_
    conv => whnf
    intro w7 hq7 hc7 _
    conv => whnf
    refine ⟨_, hq7.cells (off := 0) (vs := cEff { eOnly e with msg := e.msg }) (List.prefix_refl _), rfl, ?_⟩
    exact fin { eOnly e with msg := e.msg } w6 hr6 hc (by unfold eNamed; rw [if_neg k1, if_neg k2, if_neg k3, if_pos k4]; rfl) w7 hq7 hc7
  have five : (e.kind = 5 ∨ e.kind = 6) → eNamed e = { eOnly e with n := e.n } := fun h => by unfold eNamed; rw [if_neg k1, if_neg k2, if_neg k3, if_neg k4, if_pos h]; rfl
  conv => whnf
  refine Cmp.dec (fun k5 => ?_) (fun k5 => ?_)
  · conv => whnf
    refine ld TryzT_ok hp ?_
    conv => whnf
    refine st TryzT_ok hr0 ?_
    conv => whnf
    intro w6 hr6 hc _
    have hq6 := qq _ hc
    conv => whnf
    refine ldA TryzT_ok (hr6.cells (off := 0) (vs := cEff { eOnly e with n := e.n }) (List.prefix_refl _)) ?_
    conv => whnf
    refine stA TryzT_ok hq6 ?_
    conv => whnf
    intro w7 hq7 hc7 _
    conv => whnf
    refine ⟨_, hq7.cells (off := 0) (vs := cEff { eOnly e with n := e.n }) (List.prefix_refl _), rfl, ?_⟩
    exact fin { eOnly e with n := e.n } w6 hr6 hc (five (.inl k5)) w7 hq7 hc7
  conv => whnf
  refine Cmp.dec (fun k6 => ?_) (fun k6 => ?_)
  · conv => whnf
    refine ld TryzT_ok hp ?_
    conv => whnf
    refine st TryzT_ok hr0 ?_
    conv => whnf
    intro w6 hr6 hc _
    have hq6 := qq _ hc
    conv => whnf
    refine ldA TryzT_ok (hr6.cells (off := 0) (vs := cEff { eOnly e with n := e.n }) (List.prefix_refl _)) ?_
    conv => whnf
    refine stA TryzT_ok hq6 ?_
    conv => whnf
    intro w7 hq7 hc7 _
    conv => whnf
    refine ⟨_, hq7.cells (off := 0) (vs := cEff { eOnly e with n := e.n }) (List.prefix_refl _), rfl, ?_⟩
    exact fin { eOnly e with n := e.n } w6 hr6 hc (five (.inr k6)) w7 hq7 hc7
  have k56 : ¬ (e.kind = 5 ∨ e.kind = 6) := by omega
  conv => whnf
  refine Cmp.dec (fun k7 => ?_) (fun k7 => ?_)
  · conv => whnf
    refine draw TryzT_ok Tryz_mixed (fun w4 hx4 _ => ?_)
    conv => whnf
    refine ldL TryzT_ok (hp.ext hx4) ?_
    conv => whnf
    refine ldL TryzT_ok (hp.ext hx4) ?_
    conv => whnf
    refine st TryzT_ok (hr0.ext hx4) ?_
    conv => whnf
    intro w5 hr5 hc5 _
    conv => whnf
    refine ⟨((hp.ext hx4).chg hc5 (by show ¬ p = r; omega)).cell 6, ?_⟩
    conv => whnf
    refine st TryzT_ok hr5 ?_
    conv => whnf
    intro w6 hr6 hc6 _
    have hc : Chg (· = r) w3 w6 := (hx4.up.trans hc5).trans hc6
    have hq6 := qq _ hc
    conv => whnf
    refine ldA TryzT_ok (hr6.cells (off := 0) (vs := cEff { eOnly e with n := e.n, tried := e.tried }) (List.prefix_refl _)) ?_
    conv => whnf
    refine stA TryzT_ok hq6 ?_
    conv => whnf
    intro w7 hq7 hc7 _
    conv => whnf
    refine ⟨_, hq7.cells (off := 0) (vs := cEff { eOnly e with n := e.n, tried := e.tried }) (List.prefix_refl _), rfl, ?_⟩
    exact fin { eOnly e with n := e.n, tried := e.tried } w6 hr6 hc (by unfold eNamed; rw [if_neg k1, if_neg k2, if_neg k3, if_neg k4, if_neg k56, if_pos k7]; rfl) w7 hq7 hc7
  conv => whnf
  refine Cmp.dec (fun k8 => ?_) (fun k8 => ?_)
  · conv => whnf
    refine draw TryzT_ok Tryz_mixed (fun w4 hx4 _ => ?_)
    conv => whnf
    refine ldL TryzT_ok (hp.ext hx4) ?_
    conv => whnf
    refine st TryzT_ok (hr0.ext hx4) ?_
    conv => whnf
    intro w5 hr5 hc5 _
    conv => whnf
    refine ⟨((hp.ext hx4).chg hc5 (by show ¬ p = r; omega)).cell 4, ?_⟩
    conv => whnf
    refine st TryzT_ok hr5 ?_
    conv => whnf
    intro w6 hr6 hc6 _
    have hc : Chg (· = r) w3 w6 := (hx4.up.trans hc5).trans hc6
    have hq6 := qq _ hc
    conv => whnf
    refine ldA TryzT_ok (hr6.cells (off := 0) (vs := cEff { eOnly e with obj := e0, n := e.n }) (List.prefix_refl _)) ?_
    conv => whnf
    refine stA TryzT_ok hq6 ?_
    conv => whnf
    intro w7 hq7 hc7 _
    conv => whnf
    refine ⟨_, hq7.cells (off := 0) (vs := cEff { eOnly e with obj := e0, n := e.n }) (List.prefix_refl _), rfl, ?_⟩
    exact fin { eOnly e with obj := e0, n := e.n } w6 hr6 hc (by unfold eNamed; rw [if_neg k1, if_neg k2, if_neg k3, if_neg k4, if_neg k56, if_neg k7, if_pos k8]; rfl) w7 hq7 hc7
  · conv => whnf
    refine ldA TryzT_ok (hr0.cells (off := 0) (vs := cEff (eOnly e)) (List.prefix_refl _)) ?_
    conv => whnf
    refine stA TryzT_ok hq ?_
    conv => whnf
    intro w7 hq7 hc7 _
    conv => whnf
    refine ⟨_, hq7.cells (off := 0) (vs := cEff (eOnly e)) (List.prefix_refl _), rfl, ?_⟩
    exact fin _ w3 hr0 (Chg.refl _) (by unfold eNamed; rw [if_neg k1, if_neg k2, if_neg k3, if_neg k4, if_neg k56, if_neg k7, if_neg k8]; rfl) w7 hq7 hc7

theorem cEff_inj {a b : Eff} (h : eqC (cEff a) (cEff b) = true) : a = b := by
  obtain ⟨k, o, ky, v, n, l, t, ⟨i, p, r, c, co, bo⟩⟩ := a
  obtain ⟨k', o', ky', v', n', l', t', ⟨i', p', r', c', co', bo'⟩⟩ := b
  simp only [cEff, eqC, Bool.and_eq_true, decide_eq_true_eq] at h
  obtain ⟨rfl, rfl, rfl, rfl, rfl, rfl, rfl, rfl, rfl, rfl, rfl, rfl, rfl, _⟩ := h
  rfl
theorem eqC_refl {ks : List LK} {l : List Value} (h : fits ks l = true) : eqC l l = true := by
  induction l generalizing ks with
  | nil => rfl
  | cons v l ih =>
    cases ks with
    | nil => simp [fits] at h
    | cons k ks =>
      simp only [fits, Bool.and_eq_true] at h
      have := ih h.2
      cases v <;> simp [eqC, this]
theorem eqC_eff (a b : Eff) : eqC (cEff a) (cEff b) = decide (a = b) := by
  rw [Bool.eq_iff_iff, decide_eq_true_iff]
  constructor
  · exact cEff_inj
  · rintro rfl; exact eqC_refl (ks := [.i .i64, .s, .s, .s, .i .i64, .i .i64, .b, .i .i64, .i .i64, .i .i64, .b, .s, .s]) rfl

theorem eff_keys : eqKs Tryz.prog 6 35 = some [.i .i64, .s, .s, .s, .i .i64, .i .i64, .b, .i .i64, .i .i64, .i .i64, .b, .s, .s] := by kernel_rfl
theorem eff_agg : isAg Tryz.prog 35 = true := by kernel_rfl
theorem eff_guard : Tryz.prog.eqGuardType Tryz.prog.depth 35 = false := by kernel_rfl

/-- effect.Right -/
theorem ef_right (w : World) (e : Eff) : Does Tryz.prog 130 [.agg ⟨cEff e⟩] w fun v w' => v = .bool (eRight e) ∧ Ext w w' := by
  have X := Chg.refl (M := fun _ => False) w
  refine does1 TryzT_ok Tryz.func130 Tryz.call130 Tryz.ntmps130 Tryz.results130 ?_
  conv => whnf
  refine bx ?_
  conv => whnf
  intro p w1 hp hs1 hx1 _
  replace X := X.trans hx1
  conv => whnf
  refine draw TryzT_ok Tryz_mixed (fun w2 hx2 _ => ?_)
  replace X := X.trans hx2
  replace hp := hp.ext hx2
  conv => whnf
  refine ldLA TryzT_ok (hp.cells (off := 0) (vs := cEff e) (List.prefix_refl _)) ?_
  conv => whnf
  refine ldLA TryzT_ok (hp.cells (off := 0) (vs := cEff e) (List.prefix_refl _)) ?_
  conv => whnf
  refine cl (ef_named w2 e) ?_
  rintro v w3 ⟨rfl, hx3⟩
  replace X := X.trans hx3
  replace hp := hp.ext hx3
  conv => whnf
  refine ⟨hp.cells (off := 0) (vs := cEff e) (List.prefix_refl _), ?_⟩
  conv => whnf
  refine neS ?_ eff_keys eff_agg eff_guard
  rw [eqC_eff]
  unfold eRight
  by_cases hn : e = eNamed e
  case neg =>
    rw [decide_eq_false hn]
    refine Cmp.y (p := ¬ False) (by simp) ?_
    conv => whnf
    exact ⟨rfl, X⟩
  rw [decide_eq_true hn]
  refine Cmp.no rfl ?_
  simp only [Bool.true_and]
  conv => whnf
  refine ld TryzT_ok hp ?_
  conv => whnf
  refine Cmp.dec (fun k1 => ?_) (fun k1 => ?_)
  · rw [if_pos k1]
    conv => whnf
    refine ld TryzT_ok hp ?_
    conv => whnf
    refine ld TryzT_ok hp ?_
    conv => whnf
    refine ld TryzT_ok hp ?_
    conv => whnf
    refine cl (ef_object w3 e.obj e.n e.limit) ?_
    rintro v w4 ⟨rfl, rfl⟩
    conv => whnf
    exact ⟨rfl, X⟩
  rw [if_neg k1]
  conv => whnf
  refine Cmp.dec (fun k2 => ?_) (fun k2 => ?_)
  · rw [if_pos k2]
    conv => whnf
    refine ld TryzT_ok hp ?_
    conv => whnf
    refine cl (ef_name w3 e.obj) ?_
    rintro v w4 ⟨rfl, rfl⟩
    cases nRight e.obj with
    | false =>
      conv => whnf
      exact ⟨rfl, X⟩
    | true =>
      conv => whnf
      refine ld TryzT_ok hp ?_
      conv => whnf
      refine ld TryzT_ok hp ?_
      conv => whnf
      refine cl (rw_right w4 ⟨e.key, e.val⟩) ?_
      rintro v w5 ⟨rfl, hx5⟩
      conv => whnf
      exact ⟨rfl, X.trans hx5⟩
  rw [if_neg k2]
  conv => whnf
  refine Cmp.dec (fun k3 => ?_) (fun k3 => ?_)
  · rw [if_pos k3]
    conv => whnf
    refine ld TryzT_ok hp ?_
    conv => whnf
    refine cl (ef_name w3 e.obj) ?_
    rintro v w4 ⟨rfl, rfl⟩
    cases nRight e.obj with
    | false =>
      conv => whnf
      exact ⟨rfl, X⟩
    | true =>
      conv => whnf
      refine ld TryzT_ok hp ?_
      conv => whnf
      refine cl (rw_key w4 e.key) ?_
      rintro v w5 ⟨rfl, rfl⟩
      conv => whnf
      exact ⟨rfl, X⟩
  rw [if_neg k3]
  conv => whnf
  refine Cmp.dec (fun k4 => ?_) (fun k4 => ?_)
  · rw [if_pos k4]
    conv => whnf
    refine ld TryzT_ok hp ?_
    conv => whnf
    refine cl (ef_name w3 e.obj) ?_
    rintro v w4 ⟨rfl, rfl⟩
    cases nRight e.obj with
    | false =>
      conv => whnf
      exact ⟨rfl, X⟩
    | true =>
      conv => whnf
      refine ldA TryzT_ok (hp.cells (off := 7) (vs := cMsg e.msg) (List.prefix_refl _)) ?_
      conv => whnf
      refine cl (ms_right w4 e.msg) ?_
      rintro v w5 ⟨rfl, hx5⟩
      conv => whnf
      exact ⟨rfl, X.trans hx5⟩
  rw [if_neg k4]
  conv => whnf
  refine Cmp.dec (fun k5 => ?_) (fun k5 => ?_)
  · rw [if_pos (.inl k5)]
    conv => whnf
    refine ld TryzT_ok hp ?_
    conv => whnf
    refine cl (ef_name w3 e.obj) ?_
    rintro v w4 ⟨rfl, rfl⟩
    cases nRight e.obj with
    | false =>
      conv => whnf
      exact ⟨rfl, X⟩
    | true =>
      conv => whnf
      refine ld TryzT_ok hp ?_
      conv => whnf
      refine cl (ef_id w4 e.n) ?_
      rintro v w5 ⟨rfl, rfl⟩
      conv => whnf
      exact ⟨rfl, X⟩
  conv => whnf
  refine Cmp.dec (fun k6 => ?_) (fun k6 => ?_)
  · rw [if_pos (.inr (.inl k6))]
    conv => whnf
    refine ld TryzT_ok hp ?_
    conv => whnf
    refine cl (ef_name w3 e.obj) ?_
    rintro v w4 ⟨rfl, rfl⟩
    cases nRight e.obj with
    | false =>
      conv => whnf
      exact ⟨rfl, X⟩
    | true =>
      conv => whnf
      refine ld TryzT_ok hp ?_
      conv => whnf
      refine cl (ef_id w4 e.n) ?_
      rintro v w5 ⟨rfl, rfl⟩
      conv => whnf
      exact ⟨rfl, X⟩
  conv => whnf
  refine Cmp.dec (fun k7 => ?_) (fun k7 => ?_)
  · rw [if_pos (.inr (.inr k7))]
    conv => whnf
    refine ld TryzT_ok hp ?_
    conv => whnf
    refine cl (ef_name w3 e.obj) ?_
    rintro v w4 ⟨rfl, rfl⟩
    cases nRight e.obj with
    | false =>
      conv => whnf
      exact ⟨rfl, X⟩
    | true =>
      conv => whnf
      refine ld TryzT_ok hp ?_
      conv => whnf
      refine cl (ef_id w4 e.n) ?_
      rintro v w5 ⟨rfl, rfl⟩
      conv => whnf
      exact ⟨rfl, X⟩
  rw [if_neg (by omega)]
  conv => whnf
  refine Cmp.dec (fun k8 => ?_) (fun k8 => ?_)
  · rw [if_pos k8]
    conv => whnf
    refine ld TryzT_ok hp ?_
    conv => whnf
    refine cl (ef_id w3 e.n) ?_
    rintro v w4 ⟨rfl, rfl⟩
    conv => whnf
    exact ⟨rfl, X⟩
  · rw [if_neg k8]
    conv => whnf
    exact ⟨rfl, X⟩

/-- message.Write -/
theorem ms_write {B0 : Nat} {w : World} {p : Nat} {l : List UInt8} (h : WrR B0 w p l) (hl : l.length ≤ 60000000000) (hB : B0 ≤ w.heap.size) (m : Msg) :
    Does Tryz.prog 77 [.pointer (some ⟨p, 0, none⟩), .agg ⟨cMsg m⟩] w fun _ w' => WrR B0 w' p (l ++ encM m) ∧ Up B0 w w' := by
  refine does0 TryzT_ok Tryz.func77 Tryz.call77 Tryz.ntmps77 Tryz.results77 ?_
  conv => whnf
  refine bx ?_
  conv => whnf
  intro q w1 hq hs1 hx1 _
  replace h := h.ext hx1
  have hsz := hx1.size
  have U : Up B0 w w1 := hx1.mod
  have el := fun s : ByteArray => encT_len s
  conv => whnf
  refine ld TryzT_ok hq ?_
  conv => whnf
  refine cl (wr_int h m.id (by omega) (by omega)) ?_
  rintro v w2 ⟨h2, u2⟩
  replace hq := hq.kp (u2.kp (by decide))
  replace U := U.trans u2
  have z2 := u2.size
  conv => whnf
  refine ld TryzT_ok hq ?_
  conv => whnf
  refine cl (wr_int h2 m.pri (by simp; omega) (by omega)) ?_
  rintro v w3 ⟨h3, u3⟩
  replace hq := hq.kp (u3.kp (by decide))
  replace U := U.trans u3
  have z3 := u3.size
  conv => whnf
  refine ld TryzT_ok hq ?_
  conv => whnf
  refine cl (wr_int h3 m.retry (by simp; omega) (by omega)) ?_
  rintro v w4 ⟨h4, u4⟩
  replace hq := hq.kp (u4.kp (by decide))
  replace U := U.trans u4
  have z4 := u4.size
  conv => whnf
  refine ld TryzT_ok hq ?_
  conv => whnf
  refine cl (wr_flag h4 m.claimed (by simp; omega) (by omega)) ?_
  rintro v w5 ⟨h5, u5⟩
  replace hq := hq.kp (u5.kp (by decide))
  replace U := U.trans u5
  have z5 := u5.size
  conv => whnf
  refine ld TryzT_ok hq ?_
  conv => whnf
  refine cl (wr_text h5 m.corr (by simp; omega) (by omega)) ?_
  rintro v w6 ⟨h6, u6⟩
  replace hq := hq.kp (u6.kp (by decide))
  replace U := U.trans u6
  have z6 := u6.size
  conv => whnf
  refine ld TryzT_ok hq ?_
  conv => whnf
  refine cl (wr_text h6 m.body (by have := el m.corr; simp; omega) (by omega)) ?_
  rintro v w7 ⟨h7, u7⟩
  conv => whnf
  refine ⟨?_, U.trans u7⟩
  unfold encM
  simpa [List.append_assoc] using h7

theorem encM_len (m : Msg) : (encM m).length ≤ 131200 := by
  unfold encM
  have h1 := encT_len m.corr
  have h2 := encT_len m.body
  simp; omega
theorem encE_len (e : Eff) : (encE e).length ≤ 400000 := by
  unfold encE
  have h1 := encT_len e.obj
  have h2 := encT_len e.key
  have h3 := encT_len e.val
  have h4 := encM_len e.msg
  simp; omega
theorem flat_len_le {α : Type} {f : α → List UInt8} {B : Nat} (h : ∀ x, (f x).length ≤ B) (l : List α) : (l.flatMap f).length ≤ l.length * B := by
  induction l with
  | nil => simp
  | cons x l ih => have := h x; simp only [List.flatMap_cons, List.length_append, List.length_cons, Nat.add_mul]; omega

/-- effect.Bytes -/
theorem ef_bytes {w : World} {v : Value} {l : List Eff} (h : EffsR w v l) (hb : l.length ≤ 10000) :
    Does Tryz.prog 42 [v] w fun u w' => Byt w.heap.size w' u (encEs l) ∧ Ext w w' := by
  obtain ⟨a, c, rfl⟩ := h.isSlice
  refine does1 TryzT_ok Tryz.func42 Tryz.call42 Tryz.ntmps42 Tryz.results42 ?_
  conv => whnf
  refine bx ?_
  conv => whnf
  intro p w1 hp hs1 hx1 _
  have h1 := wr_new hp hs1
  have z1 := hx1.size
  conv => whnf
  refine cl (wr_int h1 (l.length : Int) (by simp) (by omega)) ?_
  rintro v w2 ⟨h2, u2⟩
  have X2 : Ext w w2 := hx1.then u2 fun _ h => h.1
  rw [List.nil_append] at h2
  conv => whnf
  refine Cw.loopD TryzT_ok (ι := Nat) (fun i e w' => i ≤ l.length ∧ (∃ g', e = fr g' [(3, .pointer (some ⟨p, 0, none⟩)), (12, .slice a l.length c), (13, .int .i64 (l.length : Int)), (14, .int .i64 (i : Int))]) ∧ WrR w.heap.size w' p (encI l.length ++ (l.take i).flatMap encE) ∧ Ext w w')
    (fun i => l.length - i) 0 ⟨by omega, mkfr _ ⟨rfl, rfl, rfl, rfl, trivial⟩, by simpa using h2, X2⟩ ?_
  rintro i e w3 ⟨hi, ⟨g', rfl⟩, h3, X⟩
  have z3 := X.size
  have hlen := flat_len_le encE_len (l.take i)
  simp only [List.length_take] at hlen
  generalize hD : (l.take i).flatMap encE = D at h3 hlen
  conv => whnf
  refine Cmp.dec (fun hlt => ?_) (fun hlt => ?_)
  · have hlt : i < l.length := by omega
    obtain ⟨x, hx⟩ := getElem?_lt hlt
    have hh := h.ext X
    obtain ⟨b, o, c', h4⟩ := hh.some (ne_nil_of_lt hlt)
    cases h4
    conv => whnf
    refine ia (sz := 13) TryzT_ok ?_ ?_
    · omega
    conv => whnf
    refine ldA TryzT_ok (hh.cells cEff_len hx) ?_
    conv => whnf
    refine al TryzT_ok ?_
    conv => whnf
    intro q w4a hqa hqs hx4a _
    conv => whnf
    refine stA TryzT_ok hqa ?_
    conv => whnf
    intro w4 hq hqc _
    have hx4 : Ext _ w4 := hx4a.then hqc (fun y hy => by omega)
    clear hqa hqc hx4a
    replace X := X.trans hx4
    replace h3 := h3.ext hx4
    have z4 := X.size
    conv => whnf
    refine ld TryzT_ok hq ?_
    conv => whnf
    refine cl (wr_int h3 x.kind (by simp; omega) (by omega)) ?_
    rintro v w5 ⟨h5, u5⟩
    replace hq := hq.kp (u5.kp (by decide))
    have z5 := u5.size
    conv => whnf
    refine ld TryzT_ok hq ?_
    conv => whnf
    refine cl (wr_text h5 x.obj (by simp; omega) (by omega)) ?_
    rintro v w6 ⟨h6, u6⟩
    replace hq := hq.kp (u6.kp (by decide))
    have z6 := u6.size
    conv => whnf
    refine ld TryzT_ok hq ?_
    have l1 := encT_len x.obj
    have l2 := encT_len x.key
    have l3 := encT_len x.val
    conv => whnf
    refine cl (wr_text h6 x.key (by simp; omega) (by omega)) ?_
    rintro v w7 ⟨h7, u7⟩
    replace hq := hq.kp (u7.kp (by decide))
    have z7 := u7.size
    conv => whnf
    refine ld TryzT_ok hq ?_
    conv => whnf
    refine cl (wr_text h7 x.val (by simp; omega) (by omega)) ?_
    rintro v w8 ⟨h8, u8⟩
    replace hq := hq.kp (u8.kp (by decide))
    have z8 := u8.size
    conv => whnf
    refine ld TryzT_ok hq ?_
    conv => whnf
    refine cl (wr_int h8 x.n (by simp; omega) (by omega)) ?_
    rintro v w9 ⟨h9, u9⟩
    replace hq := hq.kp (u9.kp (by decide))
    have z9 := u9.size
    conv => whnf
    refine ld TryzT_ok hq ?_
    conv => whnf
    refine cl (wr_int h9 x.limit (by simp; omega) (by omega)) ?_
    rintro v w10 ⟨h10, u10⟩
    replace hq := hq.kp (u10.kp (by decide))
    have z10 := u10.size
    conv => whnf
    refine ld TryzT_ok hq ?_
    conv => whnf
    refine cl (wr_flag h10 x.tried (by simp; omega) (by omega)) ?_
    rintro v w11 ⟨h11, u11⟩
    replace hq := hq.kp (u11.kp (by decide))
    have z11 := u11.size
    conv => whnf
    refine ldA TryzT_ok (hq.cells (off := 7) (vs := cMsg x.msg) (List.prefix_refl _)) ?_
    conv => whnf
    refine cl (ms_write h11 (by simp; omega) (by omega) x.msg) ?_
    rintro v w12 ⟨h12, u12⟩
    have u := ((((((u5.trans u6).trans u7).trans u8).trans u9).trans u10).trans u11).trans u12
    conv => whnf
    refine Ar.i (by omega) ?_
    conv => whnf
    refine ⟨i + 1, ⟨by omega, mkfr _ ⟨rfl, rfl, rfl, rfl, trivial⟩, ?_, X.then u fun _ h => h.1⟩, by omega⟩
    rw [take_snoc hx, List.flatMap_append, hD]
    simp only [List.flatMap_cons, List.flatMap_nil, List.append_nil, encE]
    simpa [List.append_assoc] using h12
  · have : i = l.length := by omega
    subst this
    rw [List.take_length] at hD
    conv => whnf
    refine cl (wr_bytes h3 (by simp; omega)) ?_
    rintro v w4 ⟨h4, hx4⟩
    obtain ⟨a4, c4, rfl, ho4, hf4⟩ := h4
    conv => whnf
    unfold encEs
    rw [hD]
    exact ⟨⟨a4, c4, rfl, ho4, fun b hb => by have := hf4 b hb; omega⟩, X.trans hx4⟩
end Go.Pst

namespace Go.Pst
open Go Go.Proofs

/-- at a place of block b lies object o -/
structure Slot (w : World) (b : Nat) (full : List Value) (off : Nat) (o : Obj) (a1 : Option Addr) (c1 : Nat) (a2 : Option Addr) (c2 : Nat) (a3 : Option Addr) (c3 : Nat) : Prop where
  blk : Blk w b 45 full
  at_ : (full.drop off).take 6 = cObj o a1 c1 a2 c2 a3 c3
  len : off + 6 ≤ full.length
  ob : ObjP w o a1 c1 a2 c2 a3 c3
theorem Slot.ext {w w' : World} {b : Nat} {full : List Value} {off : Nat} {o : Obj} {a1 c1 a2 c2 a3 c3} (h : Slot w b full off o a1 c1 a2 c2 a3 c3) (hx : Ext w w') : Slot w' b full off o a1 c1 a2 c2 a3 c3 := ⟨h.blk.ext hx, h.at_, h.len, h.ob.ext hx⟩
theorem Slot.cells {w : World} {b : Nat} {full : List Value} {off : Nat} {o : Obj} {a1 c1 a2 c2 a3 c3} (h : Slot w b full off o a1 c1 a2 c2 a3 c3) : Cells w b off (cObj o a1 c1 a2 c2 a3 c3) := cells_of h.blk h.at_
/-- behind a turn of the object -/
def Turn (w w' : World) (b : Nat) (full : List Value) (off : Nat) (o' : Obj) : Prop :=
  ∃ a1 c1 a2 c2 a3 c3, Blk w' b 45 (splice full off (cObj o' a1 c1 a2 c2 a3 c3)) ∧ ObjP w' o' a1 c1 a2 c2 a3 c3 ∧ Chg (· = b) w w'
theorem Turn.pre {w w1 w' : World} {b : Nat} {full : List Value} {off : Nat} {o' : Obj} (hx : Ext w w1) (h : Turn w1 w' b full off o') : Turn w w' b full off o' := by
  obtain ⟨a1, c1, a2, c2, a3, c3, h1, h2, h3⟩ := h; exact ⟨a1, c1, a2, c2, a3, c3, h1, h2, hx.up.trans h3⟩
theorem Turn.post {w w1 w' : World} {b : Nat} {full : List Value} {off : Nat} {o' : Obj} (h : Turn w w1 b full off o') (hx : Ext w1 w') : Turn w w' b full off o' := by
  obtain ⟨a1, c1, a2, c2, a3, c3, h1, h2, h3⟩ := h; exact ⟨a1, c1, a2, c2, a3, c3, h1.ext hx, h2.ext hx, h3.trans hx.up⟩
theorem Slot.same {w w' : World} {b : Nat} {full : List Value} {off : Nat} {o : Obj} {a1 c1 a2 c2 a3 c3} (h : Slot w b full off o a1 c1 a2 c2 a3 c3) (hx : Ext w w') : Turn w w' b full off o := by
  refine ⟨a1, c1, a2, c2, a3, c3, ?_, h.ob.ext hx, hx.up⟩
  have e : splice full off (cObj o a1 c1 a2 c2 a3 c3) = full := by
    rw [← h.at_]; unfold splice
    have hl : ((full.drop off).take 6).length = 6 := by rw [h.at_]; rfl
    rw [hl, ← List.drop_drop, List.append_assoc, List.take_append_drop, List.take_append_drop]
  rw [e]; exact h.blk.ext hx
/-- the rows turned -/
theorem Slot.rows {w w' : World} {b : Nat} {full : List Value} {off : Nat} {o : Obj} {a1 c1 a2 c2 a3 c3} (h : Slot w b full off o a1 c1 a2 c2 a3 c3) {a : Option Addr} {c : Nat} {l : List Row} (hl : RowsR w (.slice a l.length c) l)
    (hb : Blk w' b 45 (full.set (off + 3) (.slice a l.length c))) (hc : Chg (· = b) w w') : Turn w w' b full off { o with rows := l } := by
  rw [set_off h.at_ rfl (by omega) (by have := h.len; omega)] at hb
  have k1 := hc.kpb h.blk (E' := 120) (by decide)
  have k2 := hc.kpb h.blk (E' := 33) (by decide)
  exact ⟨a, c, a2, c2, a3, c3, hb, ⟨hl.kp k1, h.ob.msgs.kp k2, h.ob.dead.kp k2⟩, hc⟩
theorem Slot.msgs {w w' : World} {b : Nat} {full : List Value} {off : Nat} {o : Obj} {a1 c1 a2 c2 a3 c3} (h : Slot w b full off o a1 c1 a2 c2 a3 c3) {a : Option Addr} {c : Nat} {l : List Msg} (hl : MsgsR w (.slice a l.length c) l)
    (hb : Blk w' b 45 (full.set (off + 4) (.slice a l.length c))) (hc : Chg (· = b) w w') : Turn w w' b full off { o with msgs := l } := by
  rw [set_off h.at_ rfl (by omega) (by have := h.len; omega)] at hb
  have k1 := hc.kpb h.blk (E' := 120) (by decide)
  have k2 := hc.kpb h.blk (E' := 33) (by decide)
  exact ⟨a1, c1, a, c, a3, c3, hb, ⟨h.ob.rows.kp k1, hl.kp k2, h.ob.dead.kp k2⟩, hc⟩

/-- state.inTable -/
theorem st_table {w : World} {b : Nat} {full : List Value} {off : Nat} {o : Obj} {a1 c1 a2 c2 a3 c3} (h : Slot w b full off o a1 c1 a2 c2 a3 c3) (hob : OB 1000000000 o) (e : Eff) :
    Does Tryz.prog 137 [.pointer (some ⟨b, off, none⟩), .agg ⟨cEff e⟩] w fun v w' => v = .int .i64 (oTable o e).1 ∧ Turn w w' b full off (oTable o e).2 := by
  have b1 := hob.rows
  have hlen := h.len
  refine does1 TryzT_ok Tryz.func137 Tryz.call137 Tryz.ntmps137 Tryz.results137 ?_
  conv => whnf
  refine bx ?_
  conv => whnf
  intro q w1 hq _ hx1 _
  replace h := h.ext hx1
  conv => whnf
  refine ld TryzT_ok hq ?_
  unfold oTable
  conv => whnf
  refine Cmp.dec (fun hk => ?_) (fun hk => ?_)
  · rw [if_pos hk]
    conv => whnf
    refine draw TryzT_ok Tryz_mixed (fun w2 hx2 _ => ?_)
    replace h := h.ext hx2
    replace hq := hq.ext hx2
    conv => whnf
    refine ldLC TryzT_ok (h.cells 3 _ rfl) ?_
    conv => whnf
    refine ldL TryzT_ok hq ?_
    conv => whnf
    refine ldL TryzT_ok hq ?_
    conv => whnf
    refine cl (rw_put h.ob.rows (by omega) ⟨e.key, e.val⟩) ?_
    rintro v w3 ⟨h3, hx3⟩
    replace h := h.ext hx3
    replace hq := hq.ext hx3
    obtain ⟨a, c, rfl⟩ := h3.isSlice
    conv => whnf
    refine stR0 (v := .slice a _ c) TryzT_ok h.blk ?_ (fun w4 hb4 hc4 hs4 => ?_)
    · omega
    conv => whnf
    exact ⟨rfl, Turn.pre ((hx1.trans hx2).trans hx3) (h.rows h3 hb4 hc4)⟩
  · rw [if_neg hk]
    conv => whnf
    refine draw TryzT_ok Tryz_mixed (fun w2 hx2 _ => ?_)
    replace h := h.ext hx2
    replace hq := hq.ext hx2
    conv => whnf
    refine ldLC TryzT_ok (h.cells 3 _ rfl) ?_
    conv => whnf
    refine ldL TryzT_ok hq ?_
    conv => whnf
    refine cl (rw_cut h.ob.rows (by omega) e.key) ?_
    rintro v w3 ⟨x, rfl, h3, hx3⟩
    replace h := h.ext hx3
    replace hq := hq.ext hx3
    obtain ⟨a, c, rfl⟩ := h3.isSlice
    conv => whnf
    refine stR0 (v := .slice a _ c) TryzT_ok h.blk ?_ (fun w4 hb4 hc4 hs4 => ?_)
    · omega
    conv => whnf
    refine cl (st_told w4 _ 7) ?_
    rintro v w5 ⟨rfl, rfl⟩
    conv => whnf
    exact ⟨rfl, Turn.pre ((hx1.trans hx2).trans hx3) (h.rows h3 hb4 hc4)⟩

/-- variable p holds state s, whose object i lies at its place -/
structure StS (w : World) (p : Nat) (s : Stt) (a : Option Addr) (c : Nat) : Prop where
  var : Blk w p 40 (cStt s a c)
  objs : ObjsR w (.slice a s.objs.length c) s.objs
theorem StS.ext {w w' : World} {p : Nat} {s : Stt} {a c} (h : StS w p s a c) (hx : Ext w w') : StS w' p s a c := ⟨h.var.ext hx, h.objs.ext hx⟩

def oAdd (s : Stt) (o : Obj) (m : Msg) : Int × Obj := if s.next ≤ m.id ∨ m.claimed = true then (1, o) else if sHas s.objs m.id then (4, o) else (0, { o with msgs := qAdd o.msgs m })
/-- state.add -/
theorem st_add {K : Nat} {w : World} {p : Nat} {s : Stt} {a : Option Addr} {c : Nat} (hs : StS w p s a c) (hK : K ≤ 1000000000) (hb : SB K s) {b : Nat} {full : List Value} {off : Nat} {o : Obj} {a1 c1 a2 c2 a3 c3} (h : Slot w b full off o a1 c1 a2 c2 a3 c3) (hob : OB 1000000000 o) (m : Msg) :
    Does Tryz.prog 191 [.pointer (some ⟨p, 0, none⟩), .pointer (some ⟨b, off, none⟩), .agg ⟨cMsg m⟩] w fun v w' => v = .int .i64 (oAdd s o m).1 ∧ Turn w w' b full off (oAdd s o m).2 := by
  have b2 := hob.msgs
  have hlen := h.len
  have h00 := h
  have X := Chg.refl (M := fun _ => False) w
  refine does1 TryzT_ok Tryz.func191 Tryz.call191 Tryz.ntmps191 Tryz.results191 ?_
  conv => whnf
  refine bx ?_
  conv => whnf
  intro q w1 hq _ hx1 _
  replace X := X.trans hx1
  replace h := h.ext hx1
  replace hs := hs.ext hx1
  conv => whnf
  refine draw TryzT_ok Tryz_mixed (fun w2 hx2 _ => ?_)
  replace X := X.trans hx2
  replace h := h.ext hx2
  replace hs := hs.ext hx2
  replace hq := hq.ext hx2
  have A1 : ∀ (c : Prop), (s.next ≤ m.id ∨ m.claimed = true) → oAdd s o m = (1, o) := fun _ h => by unfold oAdd; rw [if_pos h]
  conv => whnf
  refine ldL TryzT_ok hq ?_
  conv => whnf
  refine ldL TryzT_ok hs.var ?_
  conv => whnf
  refine Cmp.dec (fun k1 => ?_) (fun k1 => ?_)
  · conv => whnf
    rw [A1 True (.inl k1)]
    exact ⟨rfl, h00.same X⟩
  conv => whnf
  refine ldL TryzT_ok hq ?_
  cases hcl : m.claimed with
  | true =>
    conv => whnf
    rw [A1 True (.inr hcl)]
    exact ⟨rfl, h00.same X⟩
  | false =>
    have hA : oAdd s o m = if sHas s.objs m.id then (4, o) else (0, { o with msgs := qAdd o.msgs m }) := by unfold oAdd; rw [if_neg (by rw [hcl]; intro h; rcases h with h | h; exact k1 h; cases h)]
    conv => whnf
    refine draw TryzT_ok Tryz_mixed (fun w3 hx3 _ => ?_)
    replace X := X.trans hx3
    replace h := h.ext hx3
    replace hs := hs.ext hx3
    replace hq := hq.ext hx3
    conv => whnf
    refine ldLA TryzT_ok (hs.var.cells (off := 0) (vs := cStt s a c) (List.prefix_refl _)) ?_
    conv => whnf
    refine ldL TryzT_ok hq ?_
    conv => whnf
    refine cl (st_has (⟨a, c, rfl, hs.objs⟩ : StC w3 (cStt s a c) s) hK hb m.id) ?_
    rintro v w4 ⟨rfl, hx4⟩
    replace X := X.trans hx4
    replace h := h.ext hx4
    replace hs := hs.ext hx4
    replace hq := hq.ext hx4
    cases hh : sHas s.objs m.id with
    | true =>
      conv => whnf
      rw [hA, hh]
      exact ⟨rfl, h00.same X⟩
    | false =>
      conv => whnf
      refine draw TryzT_ok Tryz_mixed (fun w5 hx5 _ => ?_)
      replace X := X.trans hx5
      replace h := h.ext hx5
      replace hs := hs.ext hx5
      replace hq := hq.ext hx5
      conv => whnf
      refine ldLC TryzT_ok (h.cells 4 _ rfl) ?_
      conv => whnf
      refine ldLA TryzT_ok (hq.cells (off := 0) (vs := cMsg m) (List.prefix_refl _)) ?_
      have hmm : [Value.int .i64 m.id, .int .i64 m.pri, .int .i64 m.retry, .bool m.claimed, .string m.corr, .string m.body] = cMsg m := rfl
      conv => whnf
      refine cl (qu_add h.ob.msgs (by omega) m) ?_
      rintro v w6 ⟨h6, hx6⟩
      replace X := X.trans hx6
      replace h := h.ext hx6
      obtain ⟨a6, c6, rfl⟩ := h6.isSlice
      conv => whnf
      refine stR0 (v := .slice a6 _ c6) TryzT_ok h.blk ?_ (fun w7 hb7 hc7 hs7 => ?_)
      · omega
      conv => whnf
      rw [hA, hh]
      exact ⟨rfl, Turn.pre X (h.msgs h6 hb7 hc7)⟩

theorem oQueue_eq (s : Stt) (o : Obj) (e : Eff) : oQueue s o e = if e.kind = 4 then oAdd s o e.msg
  else if e.kind = 5 then (told (qCut o.msgs e.n).2 7, { o with msgs := (qCut o.msgs e.n).1 })
  else if e.kind = 6 then
    if qFind o.msgs e.n < 0 then (7, o) else (told (qClaim o.msgs e.n true).2 2, { o with msgs := (qClaim o.msgs e.n true).1 })
  else if e.kind = 7 then (told (oFree o e.n e.tried).2 7, (oFree o e.n e.tried).1)
  else (7, o) := rfl

/-- state.inQueue -/
theorem st_queue {K : Nat} {w : World} {p : Nat} {s : Stt} {a : Option Addr} {c : Nat} (hs : StS w p s a c) (hK : K ≤ 1000000000) (hb : SB K s) {b : Nat} {full : List Value} {off : Nat} {o : Obj} {a1 c1 a2 c2 a3 c3} (h : Slot w b full off o a1 c1 a2 c2 a3 c3) (hob : OB 1000000000 o) (e : Eff) :
    Does Tryz.prog 138 [.pointer (some ⟨p, 0, none⟩), .pointer (some ⟨b, off, none⟩), .agg ⟨cEff e⟩] w fun v w' => v = .int .i64 (oQueue s o e).1 ∧ Turn w w' b full off (oQueue s o e).2 := by
  have b2 := hob.msgs
  have hlen := h.len
  have h00 := h
  have X := Chg.refl (M := fun _ => False) w
  rw [oQueue_eq]
  refine does1 TryzT_ok Tryz.func138 Tryz.call138 Tryz.ntmps138 Tryz.results138 ?_
  conv => whnf
  refine bx ?_
  conv => whnf
  intro q w1 hq _ hx1 _
  replace X := X.trans hx1
  replace h := h.ext hx1
  replace hs := hs.ext hx1
  conv => whnf
  refine ld TryzT_ok hq ?_
  conv => whnf
  refine Cmp.dec (fun k4 => ?_) (fun k4 => ?_)
  · rw [if_pos k4]
    conv => whnf
    refine ldA TryzT_ok (hq.cells (off := 7) (vs := cMsg e.msg) (List.prefix_refl _)) ?_
    conv => whnf
    refine cl (st_add hs hK hb h hob e.msg) ?_
    rintro v w2 ⟨rfl, h2⟩
    conv => whnf
    exact ⟨rfl, h2.pre X⟩
  rw [if_neg k4]
  conv => whnf
  refine Cmp.dec (fun k5 => ?_) (fun k5 => ?_)
  · rw [if_pos k5]
    conv => whnf
    refine draw TryzT_ok Tryz_mixed (fun w2 hx2 _ => ?_)
    replace X := X.trans hx2
    replace h := h.ext hx2
    replace hs := hs.ext hx2
    replace hq := hq.ext hx2
    conv => whnf
    refine ldLC TryzT_ok (h.cells 4 _ rfl) ?_
    conv => whnf
    refine ldL TryzT_ok hq ?_
    conv => whnf
    refine cl (qu_cut h.ob.msgs (by omega) e.n) ?_
    rintro v w3 ⟨x, rfl, h3, hx3⟩
    replace X := X.trans hx3
    replace h := h.ext hx3
    obtain ⟨a6, c6, rfl⟩ := h3.isSlice
    conv => whnf
    refine stR0 (v := .slice a6 _ c6) TryzT_ok h.blk ?_ (fun w4 hb4 hc4 hs4 => ?_)
    · omega
    conv => whnf
    refine cl (st_told w4 _ 7) ?_
    rintro v w5 ⟨rfl, rfl⟩
    conv => whnf
    exact ⟨rfl, Turn.pre X (h.msgs h3 hb4 hc4)⟩
  rw [if_neg k5]
  conv => whnf
  refine Cmp.dec (fun k6 => ?_) (fun k6 => ?_)
  · rw [if_pos k6]
    conv => whnf
    refine draw TryzT_ok Tryz_mixed (fun w2 hx2 _ => ?_)
    replace X := X.trans hx2
    replace h := h.ext hx2
    replace hs := hs.ext hx2
    replace hq := hq.ext hx2
    conv => whnf
    refine ldLC TryzT_ok (h.cells 4 _ rfl) ?_
    conv => whnf
    refine ldL TryzT_ok hq ?_
    conv => whnf
    refine cl (qu_find h.ob.msgs (by omega) e.n) ?_
    rintro v w3 ⟨rfl, hx3⟩
    replace X := X.trans hx3
    replace h := h.ext hx3
    replace hs := hs.ext hx3
    replace hq := hq.ext hx3
    conv => whnf
    refine Cmp.dec (fun k7 => ?_) (fun k7 => ?_)
    · rw [if_pos k7]
      conv => whnf
      exact ⟨rfl, h00.same X⟩
    · rw [if_neg k7]
      conv => whnf
      refine draw TryzT_ok Tryz_mixed (fun w4 hx4 _ => ?_)
      replace X := X.trans hx4
      replace h := h.ext hx4
      replace hs := hs.ext hx4
      replace hq := hq.ext hx4
      conv => whnf
      refine ldLC TryzT_ok (h.cells 4 _ rfl) ?_
      conv => whnf
      refine ldL TryzT_ok hq ?_
      conv => whnf
      refine cl (qu_claim h.ob.msgs (by omega) e.n true) ?_
      rintro v w5 ⟨x, rfl, h5, hx5⟩
      replace X := X.trans hx5
      replace h := h.ext hx5
      obtain ⟨a6, c6, rfl⟩ := h5.isSlice
      conv => whnf
      refine stR0 (v := .slice a6 _ c6) TryzT_ok h.blk ?_ (fun w6 hb6 hc6 hs6 => ?_)
      · omega
      conv => whnf
      refine cl (st_told w6 _ 2) ?_
      rintro v w7 ⟨rfl, rfl⟩
      conv => whnf
      exact ⟨rfl, Turn.pre X (h.msgs h5 hb6 hc6)⟩
  rw [if_neg k6]
  conv => whnf
  refine Cmp.dec (fun k7 => ?_) (fun k7 => ?_)
  · rw [if_pos k7]
    conv => whnf
    refine draw TryzT_ok Tryz_mixed (fun w2 hx2 _ => ?_)
    replace X := X.trans hx2
    replace h := h.ext hx2
    replace hs := hs.ext hx2
    replace hq := hq.ext hx2
    conv => whnf
    refine ldLA TryzT_ok h.cells ?_
    conv => whnf
    refine ldL TryzT_ok hq ?_
    conv => whnf
    refine ldL TryzT_ok hq ?_
    conv => whnf
    refine cl (dd_free (ObjC.mk h.ob) hob e.n e.tried) ?_
    rintro v w3 ⟨c', rfl, ⟨x1, y1, x2, y2, x3, y3, rfl, h3⟩, hx3⟩
    replace X := X.trans hx3
    replace h := h.ext hx3
    conv => whnf
    refine stAR (vs := cObj (oFree o e.n e.tried).1 x1 y1 x2 y2 x3 y3) TryzT_ok h.blk ?_ ?_ (fun w4 hb4 hc4 hs4 => ?_)
    · show off + 6 ≤ _; omega
    · intro v hv; simp [cObj] at hv; rcases hv with rfl | rfl | rfl | rfl | rfl | rfl <;> rfl
    conv => whnf
    refine cl (st_told w4 _ 7) ?_
    rintro v w5 ⟨rfl, rfl⟩
    conv => whnf
    have k1 := hc4.kpb h.blk (E' := 120) (by decide)
    have k2 := hc4.kpb h.blk (E' := 33) (by decide)
    exact ⟨rfl, Turn.pre X ⟨x1, y1, x2, y2, x3, y3, hb4, ⟨h3.rows.kp k1, h3.msgs.kp k2, h3.dead.kp k2⟩, hc4⟩⟩
  · rw [if_neg k7]
    conv => whnf
    refine cl (st_told w1 false 7) ?_
    rintro v w5 ⟨rfl, rfl⟩
    conv => whnf
    exact ⟨rfl, h00.same X⟩
end Go.Pst

namespace Go.Pst
open Go Go.Proofs

theorem sFind_at {l : List Obj} {name : ByteArray} (h : ¬ sFind l name < 0) : ∃ i o, sFind l name = (i : Nat) ∧ l[i]? = some o := by
  unfold sFind at *
  rcases lIdx_cases (fun o : Obj => decide (o.name = name)) l with ⟨h1, _⟩ | ⟨i, x, h1, h2, _⟩
  · omega
  · exact ⟨i, x, h1, h2⟩

/-- state.do -/
theorem st_do {B0 K : Nat} {w : World} {p : Nat} {s : Stt} (h : StP B0 w p s) (hK : K ≤ 1000000000) (hb : SB K s) (hB0 : B0 ≤ w.heap.size) (e : Eff) :
    Does Tryz.prog 68 [.pointer (some ⟨p, 0, none⟩), .agg ⟨cEff e⟩] w fun v w' => v = .int .i64 (sDo s e).1 ∧ StP B0 w' p (sDo s e).2 ∧ Mod (fun b => B0 ≤ b) SS w w' := by
  have hl := hb.objs
  have X := Chg.refl (M := fun _ => False) w
  have hD : sDo s e = (if eRight e = false then (1, s) else if e.kind = 1 then sMake s e else if e.kind = 8 then (if e.n < s.next then (1, s) else (0, { s with next := e.n }))
    else if sFind s.objs e.obj < 0 then (3, s)
    else if decide (e.kind = 2 ∨ e.kind = 3) ≠ decide ((s.objs.getD (sFind s.objs e.obj).toNat o0).kind = 1) then (5, s)
    else ((if decide (e.kind = 2 ∨ e.kind = 3) = true then oTable (s.objs.getD (sFind s.objs e.obj).toNat o0) e else oQueue s (s.objs.getD (sFind s.objs e.obj).toNat o0) e).1,
      { s with objs := s.objs.set (sFind s.objs e.obj).toNat (if decide (e.kind = 2 ∨ e.kind = 3) = true then oTable (s.objs.getD (sFind s.objs e.obj).toNat o0) e else oQueue s (s.objs.getD (sFind s.objs e.obj).toNat o0) e).2 })) := rfl
  refine does1 TryzT_ok Tryz.func68 Tryz.call68 Tryz.ntmps68 Tryz.results68 ?_
  conv => whnf
  refine bx ?_
  conv => whnf
  intro q w1 hq _ hx1 _
  replace X := X.trans hx1
  replace h := h.ext hx1
  conv => whnf
  refine ldA TryzT_ok (hq.cells (off := 0) (vs := cEff e) (List.prefix_refl _)) ?_
  conv => whnf
  refine cl (ef_right w1 e) ?_
  rintro v w2 ⟨rfl, hx2⟩
  replace X := X.trans hx2
  replace h := h.ext hx2
  replace hq := hq.ext hx2
  cases hr : eRight e with
  | false =>
    rw [hr, if_pos rfl] at hD
    conv => whnf
    rw [hD]
    exact ⟨rfl, h, X.mod⟩
  | true =>
    rw [hr, if_neg (by decide)] at hD
    conv => whnf
    refine ld TryzT_ok hq ?_
    conv => whnf
    refine Cmp.dec (fun k1 => ?_) (fun k1 => ?_)
    · rw [if_pos k1] at hD
      conv => whnf
      refine ldA TryzT_ok (hq.cells (off := 0) (vs := cEff e) (List.prefix_refl _)) ?_
      conv => whnf
      refine cl (st_make1 h hl (by have := X.size; omega) e) ?_
      rintro v w3 ⟨rfl, h3, m3⟩
      conv => whnf
      rw [hD]
      exact ⟨rfl, h3, X.mod.trans m3⟩
    rw [if_neg k1] at hD
    conv => whnf
    refine ld TryzT_ok hq ?_
    conv => whnf
    refine Cmp.dec (fun k8 => ?_) (fun k8 => ?_)
    · rw [if_pos k8] at hD
      conv => whnf
      refine ld TryzT_ok hq ?_
      conv => whnf
      refine cl (st_next h e.n) ?_
      rintro v w3 ⟨rfl, h3, m3⟩
      by_cases hn : e.n < s.next
      · rw [if_pos hn] at hD h3 ⊢
        conv => whnf
        rw [hD]; exact ⟨rfl, h3, X.mod.trans m3⟩
      · rw [if_neg hn] at hD h3 ⊢
        conv => whnf
        rw [hD]; exact ⟨rfl, h3, X.mod.trans m3⟩
    rw [if_neg k8] at hD
    obtain ⟨a, c, cs, hp, ho, hrp, hB1, hB2⟩ := h
    conv => whnf
    refine draw TryzT_ok Tryz_mixed (fun w3 hx3 _ => ?_)
    replace X := X.trans hx3
    replace hp := hp.ext hx3
    replace ho := ho.ext hx3
    replace hrp := hrp.ext hx3
    replace hq := hq.ext hx3
    conv => whnf
    refine ldLA TryzT_ok (hp.cells (off := 0) (vs := cStt s a c) (List.prefix_refl _)) ?_
    conv => whnf
    refine ldL TryzT_ok hq ?_
    conv => whnf
    refine cl (st_find (⟨a, c, rfl, ObjsR.of ho hrp⟩ : StC w3 (cStt s a c) s) (by omega) e.obj) ?_
    rintro v w4 ⟨rfl, hx4⟩
    replace X := X.trans hx4
    replace hp := hp.ext hx4
    replace ho := ho.ext hx4
    replace hrp := hrp.ext hx4
    replace hq := hq.ext hx4
    conv => whnf
    refine Cmp.dec (fun k3 => ?_) (fun k3 => ?_)
    · rw [if_pos k3] at hD
      conv => whnf
      rw [hD]
      exact ⟨rfl, ⟨a, c, cs, hp, ho, hrp, hB1, hB2⟩, X.mod⟩
    rw [if_neg k3] at hD
    obtain ⟨i, o, hfi, hio⟩ := sFind_at k3
    have hlt := lt_of_getElem? hio
    have hob := (hb.ob o (List.mem_of_getElem? hio)).mono hK
    obtain ⟨b, off, c', h4⟩ := ho.sl.some (by omega)
    cases h4
    obtain ⟨ho0, rest, hcc, hbk, hrl⟩ := ho.opens
    subst ho0
    have hcl := ho.1
    have hil : i * 6 + 6 ≤ cs.length := by rw [hcl]; omega
    obtain ⟨⟨x1, y1, x2, y2, x3, y3, hc, hop⟩, _⟩ := hrp.get hio
    have hslot : Slot w4 b (cs ++ rest) (i * 6) o x1 y1 x2 y2 x3 y3 := ⟨hbk, by rw [List.drop_append_of_le_length (by omega), List.take_append_of_le_length (by simp; omega), hc], by rw [List.length_append]; omega, hop⟩
    rw [hfi, Int.toNat_natCast] at hD
    rw [hfi]
    have hgd : s.objs.getD i o0 = o := by rw [List.getD_eq_getElem?_getD, hio]; rfl
    rw [hgd] at hD
    -- the way back, the object turned
    have back : ∀ (o' : Obj) (w5 w6 : World), Ext w4 w5 → Turn w5 w6 b (cs ++ rest) (i * 6) o' → StP B0 w6 p { s with objs := s.objs.set i o' } ∧ Mod (fun b => B0 ≤ b) SS w w6 := by
      rintro o' w5 w6 hx5 ⟨z1, u1, z2, u2, z3, u3, hb6, hop6, hc6⟩
      have hch : Chg (· = b) w4 w6 := hx5.up.trans hc6
      have ho6 := ho.splice hcc hrl hb6 (by show i * 6 + 6 ≤ _; omega)
      have hr6 := (hrp.kp (hch.kpb hbk (by decide)) (hch.kpb hbk (by decide))).set i hlt (c := cObj o' z1 u1 z2 u2 z3 u3) rfl (ObjC.mk hop6)
      have hl6 : (s.objs.set i o').length = s.objs.length := List.length_set
      refine ⟨⟨some ⟨b, 0, none⟩, c, _, ?_, by rw [hl6]; exact ho6, hr6, hB1, by rw [hl6]; exact hB2⟩, X.mod.trans (hch.modB hbk (hB2 b (by simp)) (by decide))⟩
      have := hp.kp (hch.kpb hbk (by decide))
      unfold cStt at this ⊢
      simp only [hl6]; exact this
    conv => whnf
    refine ld TryzT_ok hp ?_
    conv => whnf
    refine ia (sz := 6) TryzT_ok ?_ ?_
    · omega
    have e0 : (0 : Nat) + (i : Int).toNat * 6 = i * 6 := by omega
    rw [e0]
    conv => whnf
    refine ld TryzT_ok hq ?_
    conv => whnf
    refine Cmp.dec (fun k2 => ?_) (fun k2 => ?_)
    · have ht : decide (e.kind = 2 ∨ e.kind = 3) = true := decide_eq_true (.inl k2)
      rw [ht] at hD
      conv => whnf
      refine OpR.ldC TryzT_ok (hslot.cells 1 _ rfl) ?_
      conv => whnf
      refine Cmp.keep ?_
      conv => whnf
      refine neB TryzT_ok ?_
      by_cases hk : o.kind = 1
      · rw [decide_eq_true hk] at hD ⊢
        refine Cmp.no rfl ?_
        rw [if_neg (by simp), if_pos rfl] at hD
        conv => whnf
        refine ldA TryzT_ok (hq.cells (off := 0) (vs := cEff e) (List.prefix_refl _)) ?_
        conv => whnf
        refine cl (st_table hslot hob e) ?_
        rintro v w5 ⟨rfl, h5⟩
        conv => whnf
        rw [hD]
        exact ⟨rfl, back _ w4 w5 (Chg.refl _) h5⟩
      · rw [decide_eq_false hk] at hD ⊢
        refine Cmp.yes rfl ?_
        rw [if_pos (by simp)] at hD
        conv => whnf
        rw [hD]
        exact ⟨rfl, ⟨_, c, cs, hp, ho, hrp, hB1, hB2⟩, X.mod⟩
    · conv => whnf
      refine ld TryzT_ok hq ?_
      conv => whnf
      refine Cmp.dec (fun k3' => ?_) (fun k3' => ?_)
      · have ht : decide (e.kind = 2 ∨ e.kind = 3) = true := decide_eq_true (.inr k3')
        rw [ht] at hD
        conv => whnf
        refine OpR.ldC TryzT_ok (hslot.cells 1 _ rfl) ?_
        conv => whnf
        refine Cmp.keep ?_
        conv => whnf
        refine neB TryzT_ok ?_
        by_cases hk : o.kind = 1
        · rw [decide_eq_true hk] at hD ⊢
          refine Cmp.no rfl ?_
          rw [if_neg (by simp), if_pos rfl] at hD
          conv => whnf
          refine ldA TryzT_ok (hq.cells (off := 0) (vs := cEff e) (List.prefix_refl _)) ?_
          conv => whnf
          refine cl (st_table hslot hob e) ?_
          rintro v w5 ⟨rfl, h5⟩
          conv => whnf
          rw [hD]
          exact ⟨rfl, back _ w4 w5 (Chg.refl _) h5⟩
        · rw [decide_eq_false hk] at hD ⊢
          refine Cmp.yes rfl ?_
          rw [if_pos (by simp)] at hD
          conv => whnf
          rw [hD]
          exact ⟨rfl, ⟨_, c, cs, hp, ho, hrp, hB1, hB2⟩, X.mod⟩
      · have ht : decide (e.kind = 2 ∨ e.kind = 3) = false := decide_eq_false (by omega)
        rw [ht] at hD
        conv => whnf
        refine OpR.ldC TryzT_ok (hslot.cells 1 _ rfl) ?_
        conv => whnf
        refine Cmp.keep ?_
        conv => whnf
        refine neB TryzT_ok ?_
        by_cases hk : o.kind = 1
        · rw [decide_eq_true hk] at hD ⊢
          refine Cmp.yes rfl ?_
          rw [if_pos (by simp)] at hD
          conv => whnf
          rw [hD]
          exact ⟨rfl, ⟨_, c, cs, hp, ho, hrp, hB1, hB2⟩, X.mod⟩
        · rw [decide_eq_false hk] at hD ⊢
          refine Cmp.no rfl ?_
          rw [if_neg (by simp), if_neg (by decide)] at hD
          conv => whnf
          refine ldA TryzT_ok (hq.cells (off := 0) (vs := cEff e) (List.prefix_refl _)) ?_
          conv => whnf
          refine cl (st_queue ⟨hp, ObjsR.of ho hrp⟩ hK hb hslot hob e) ?_
          rintro v w5 ⟨rfl, h5⟩
          conv => whnf
          rw [hD]
          exact ⟨rfl, back _ w4 w5 (Chg.refl _) h5⟩

theorem sDos_snoc {s : Stt} {l : List Eff} {e : Eff} (h : (sDos s l).1 = 0) : sDos s (l ++ [e]) = if (sDo (sDos s l).2 e).1 = 0 then (0, (sDo (sDos s l).2 e).2) else ((sDo (sDos s l).2 e).1, (sDos s l).2) := by
  induction l generalizing s with
  | nil => rfl
  | cons x l ih =>
    rw [List.cons_append]
    unfold sDos at h ⊢
    split
    · rename_i hx
      rw [if_pos hx] at h
      exact ih h
    · rename_i hx
      rw [if_neg hx] at h
      exact absurd h hx
theorem sDos_err {s : Stt} {l l' : List Eff} (h : (sDos s l).1 ≠ 0) : (sDos s (l ++ l')).1 = (sDos s l).1 := by
  induction l generalizing s with
  | nil => exact absurd rfl h
  | cons x l ih =>
    rw [List.cons_append]
    unfold sDos at h ⊢
    split
    · rename_i hx
      rw [if_pos hx] at h
      exact ih h
    · rfl

/-- state.Apply -/
theorem st_apply {K : Nat} {w : World} {c : List Value} {s : Stt} (h : StC w c s) (hK : K ≤ 100000000) (hb : 20 < s.objs.length ∨ SB K s) (hl : s.objs.length ≤ 100000000) {v : Value} {l : List Eff} (hv : EffsR w v l) (hvl : l.length ≤ 100000000) :
    Does Tryz.prog 38 [.agg ⟨c⟩, v] w fun v w' => ∃ c', v = .tuple #[.agg ⟨c'⟩, .int .i64 (sApply s l).1] ∧ StC w' c' (sApply s l).2 ∧ Ext w w' := by
  obtain ⟨av, cv, rfl⟩ := hv.isSlice
  have h0 := h
  obtain ⟨a, k, rfl, hobs⟩ := h
  have X := Chg.refl (M := fun _ => False) w
  refine doesC2 TryzT_ok Tryz.func38 Tryz.call38 Tryz.ntmps38 Tryz.results38 ?_
  conv => whnf
  refine bx ?_
  conv => whnf
  intro p w1 hp hs1 hx1 _
  replace X := X.trans hx1
  replace h0 := h0.ext hx1
  replace hv := hv.ext hx1
  conv => whnf
  refine al TryzT_ok ?_
  conv => whnf
  intro q w2 hq hs2 hx2 _
  replace X := X.trans hx2
  replace h0 := h0.ext hx2
  replace hv := hv.ext hx2
  replace hp := hp.ext hx2
  have hpq : p < q := by have := hp.lt; omega
  conv => whnf
  refine ldA TryzT_ok (hp.cells (off := 0) (vs := cStt s a k) (List.prefix_refl _)) ?_
  conv => whnf
  refine cl (st_right h0 (by omega) hb (by omega)) ?_
  rintro v w3 ⟨rfl, hx3⟩
  replace X := X.trans hx3
  replace h0 := h0.ext hx3
  replace hv := hv.ext hx3
  replace hp := hp.ext hx3
  replace hq := hq.ext hx3
  unfold sApply
  cases hsr : sRight s with
  | false =>
    conv => whnf
    refine stA TryzT_ok hq ?_
    conv => whnf
    intro w4 hq4 hc4 hs4
    conv => whnf
    refine ⟨_, hq4.cells (off := 0) (vs := cStt s0 none 0) (List.prefix_refl _), rfl, ?_⟩
    rw [if_pos rfl]
    exact ⟨_, rfl, ⟨none, 0, rfl, [], Sl.nil _ _ _ _, rfl⟩, X.then hc4 fun y hy => by omega⟩
  | true =>
    rw [if_neg (by decide)]
    have hb : SB K s := hb.resolve_left (by
      intro h
      unfold sRight at hsr
      rw [decide_eq_false (show ¬ (1 ≤ s.next ∧ s.next ≤ 1099511627776 ∧ s.objs.length ≤ 20) by omega)] at hsr
      cases hsr)
    conv => whnf
    refine ldA TryzT_ok (hp.cells (off := 0) (vs := cStt s a k) (List.prefix_refl _)) ?_
    conv => whnf
    refine cl (st_clone h0 (by omega) hb) ?_
    rintro v w4 ⟨a4, k4, cs4, rfl, ho4, hr4, hf4, hx4⟩
    replace X := X.trans hx4
    replace hv := hv.ext hx4
    replace hp := hp.ext hx4
    replace hq := hq.ext hx4
    have hz3 : w2.heap.size ≤ w3.heap.size := hx3.size
    have hz4 : w3.heap.size ≤ w4.heap.size := hx4.size
    conv => whnf
    refine stA TryzT_ok hp ?_
    conv => whnf
    intro w5 hp5 hc5 hs5
    have X5 : Ext w w5 := X.then hc5 fun y hy => by omega
    have hv5 : EffsR w5 _ l := hv.kp (hc5.kpb hp (by decide))
    have hq5 := hq.chg hc5 (by show ¬ q = p; omega)
    have hS : StP w.heap.size w5 p s := ⟨a4, k4, cs4, hp5, ho4.kp (hc5.kpb hp (by decide)), hr4.kp (hc5.kpb hp (by decide)) (hc5.kpb hp (by decide)), by omega, fun b hb => by have := hf4 b hb; omega⟩
    conv => whnf
    refine Cw.loopD TryzT_ok (ι := Nat) (fun i e w' => i ≤ l.length ∧ (∃ g', e = fr g' [(2, .pointer (some ⟨p, 0, none⟩)), (4, .pointer (some ⟨q, 0, none⟩)), (15, .slice av l.length cv), (16, .int .i64 (l.length : Int)), (17, .int .i64 (i : Int))]) ∧ (sDos s (l.take i)).1 = 0 ∧ StP w.heap.size w' p (sDos s (l.take i)).2 ∧ Ext w w' ∧ EffsR w' (.slice av l.length cv) l ∧ (∃ cq, Blk w' q 40 cq ∧ cq.length = 2))
      (fun i => l.length - i) 0 ⟨by omega, mkfr _ ⟨rfl, rfl, rfl, rfl, rfl, trivial⟩, rfl, hS, X5, hv5, ⟨_, hq5, rfl⟩⟩ ?_
    clear hS X5 hv5 hq5 hp5 ho4 hr4 hp hq hv h0 hobs X hx3 hx4 hc5
    rintro i e w6 ⟨hi, ⟨g', rfl⟩, hd0, hS, X, hv, ⟨cq, hq, hql⟩⟩
    obtain ⟨z1, z2, rfl⟩ : ∃ x y, cq = [x, y] := by
      match cq, hql with
      | [x, y], _ => exact ⟨x, y, rfl⟩
    conv => whnf
    refine Cmp.dec (fun hlt => ?_) (fun hlt => ?_)
    · have hlt : i < l.length := by omega
      obtain ⟨x, hx⟩ := getElem?_lt hlt
      obtain ⟨b, o, c', h4⟩ := hv.some (ne_nil_of_lt hlt)
      cases h4
      conv => whnf
      refine ia (sz := 13) TryzT_ok ?_ ?_
      · omega
      conv => whnf
      refine ldA TryzT_ok (hv.cells cEff_len hx) ?_
      conv => whnf
      refine al TryzT_ok ?_
      conv => whnf
      intro r w7a hra hrs hx7a _
      conv => whnf
      refine stA TryzT_ok hra ?_
      conv => whnf
      intro w7 hr hrc _
      have hx7 : Ext _ w7 := hx7a.then hrc (fun y hy => by omega)
      clear hra hrc hx7a
      replace X := X.trans hx7
      replace hv := hv.ext hx7
      replace hq := hq.ext hx7
      replace hS := hS.ext hx7
      conv => whnf
      refine ldA TryzT_ok (hr.cells (off := 0) (vs := cEff x) (List.prefix_refl _)) ?_
      have hsb := sDos_sb hb (l.take i)
      have hK2 : K + (l.take i).length ≤ 1000000000 := by simp; omega
      conv => whnf
      refine cl (st_do hS hK2 hsb X.size x) ?_
      rintro v w8 ⟨rfl, h8, m8⟩
      have X8 : Ext w w8 := X.then m8 fun b hb => hb.1
      have hv8 := hv.kp (m8.kp (by decide))
      obtain ⟨cq8, hq8, hql8⟩ := m8.shp _ _ _ hq
      have hsn := sDos_snoc (e := x) hd0
      rw [← take_snoc hx] at hsn
      conv => whnf
      refine Cmp.split (fun he => ?_) (fun he => ?_)
      · have he : (sDo (sDos s (l.take i)).2 x).1 ≠ 0 := by simpa using he
        rw [if_neg he] at hsn
        have hne : (sDos s (l.take (i + 1))).1 ≠ 0 := by rw [hsn]; exact he
        have hall := sDos_err (l' := l.drop (i + 1)) hne
        rw [List.take_append_drop] at hall
        obtain ⟨z3, z4, rfl⟩ : ∃ x y, cq8 = [x, y] := by
          match cq8, hql8 with
          | [x, y], _ => exact ⟨x, y, rfl⟩
        conv => whnf
        refine stA TryzT_ok hq8 ?_
        conv => whnf
        intro w9 hq9 hc9 hs9
        conv => whnf
        refine ⟨_, hq9.cells (off := 0) (vs := cStt s0 none 0) (List.prefix_refl _), rfl, ?_⟩
        have e1 : (sDos s l).1 = (sDo (sDos s (l.take i)).2 x).1 := by rw [hall, hsn]
        rw [if_neg (by rw [e1]; exact he), e1]
        exact ⟨_, rfl, ⟨none, 0, rfl, [], Sl.nil _ _ _ _, rfl⟩, X8.then hc9 fun y hy => by omega⟩
      · have he : (sDo (sDos s (l.take i)).2 x).1 = 0 := by simpa using he
        rw [if_pos he] at hsn
        conv => whnf
        refine Ar.i (by omega) ?_
        conv => whnf
        exact ⟨i + 1, ⟨by omega, mkfr _ ⟨rfl, rfl, rfl, rfl, rfl, trivial⟩, by rw [hsn], by rw [hsn]; exact h8, X8, hv8, ⟨_, hq8, hql8⟩⟩, by omega⟩
    · have : i = l.length := by omega
      subst this
      rw [List.take_length] at hd0 hS
      obtain ⟨a9, k9, cs9, hp9, ho9, hr9, _, _⟩ := hS
      conv => whnf
      refine ldA TryzT_ok (hp9.cells (off := 0) (vs := cStt (sDos s l).2 a9 k9) (List.prefix_refl _)) ?_
      conv => whnf
      refine stA TryzT_ok hq ?_
      conv => whnf
      intro w9 hq9 hc9 hs9
      conv => whnf
      refine ⟨_, hq9.cells (off := 0) (vs := cStt (sDos s l).2 a9 k9) (List.prefix_refl _), rfl, ?_⟩
      rw [if_pos hd0]
      exact ⟨_, rfl, ⟨a9, k9, rfl, _, (ho9.kp (hc9.kpb hq (by decide))).sl, hr9.kp (hc9.kpb hq (by decide)) (hc9.kpb hq (by decide))⟩, X.then hc9 fun y hy => by omega⟩
end Go.Pst

namespace Go.Pst
open Go Go.Proofs

/-- image.messages -/
theorem im_messages {B0 : Nat} {w : World} {p : Nat} {D : List UInt8} (h : WrR B0 w p D) (hl : D.length ≤ 45000000000) (hB : B0 ≤ w.heap.size) {v : Value} {l : List Msg} (hv : MsgsR w v l) (hvl : l.length ≤ 100000) (hvB : ∀ w', Up B0 w w' → MsgsR w' v l) :
    Does Tryz.prog 144 [.pointer (some ⟨p, 0, none⟩), v] w fun _ w' => WrR B0 w' p (D ++ encMs l) ∧ Up B0 w w' := by
  obtain ⟨a, c, rfl⟩ := hv.isSlice
  refine does0 TryzT_ok Tryz.func144 Tryz.call144 Tryz.ntmps144 Tryz.results144 ?_
  conv => whnf
  refine cl (wr_int h (l.length : Int) (by omega) hB) ?_
  rintro v w2 ⟨h2, u2⟩
  conv => whnf
  refine Cw.loopD TryzT_ok (ι := Nat) (fun i e w' => i ≤ l.length ∧ (∃ g', e = fr g' [(0, .pointer (some ⟨p, 0, none⟩)), (10, .slice a l.length c), (11, .int .i64 (l.length : Int)), (12, .int .i64 (i : Int))]) ∧ WrR B0 w' p (D ++ encI l.length ++ (l.take i).flatMap encM) ∧ Up B0 w w')
    (fun i => l.length - i) 0 ⟨by omega, mkfr _ ⟨rfl, rfl, rfl, rfl, trivial⟩, by simpa using h2, u2⟩ ?_
  rintro i e w3 ⟨hi, ⟨g', rfl⟩, h3, u⟩
  have z3 := u.size
  have hlen := flat_len_le encM_len (l.take i)
  simp only [List.length_take] at hlen
  generalize hE : (l.take i).flatMap encM = E at h3 hlen
  conv => whnf
  refine Cmp.dec (fun hlt => ?_) (fun hlt => ?_)
  · have hlt : i < l.length := by omega
    obtain ⟨x, hx⟩ := getElem?_lt hlt
    have hh := hvB w3 u
    obtain ⟨b, o, c', h4⟩ := hh.some (ne_nil_of_lt hlt)
    cases h4
    conv => whnf
    refine ia (sz := 6) TryzT_ok ?_ ?_
    · omega
    conv => whnf
    refine ldA TryzT_ok (hh.cells cMsg_len hx) ?_
    conv => whnf
    refine al TryzT_ok ?_
    conv => whnf
    intro q w4a hqa hqs hx4a _
    conv => whnf
    refine stA TryzT_ok hqa ?_
    conv => whnf
    intro w4 hq hqc _
    have hx4 : Ext _ w4 := hx4a.then hqc (fun y hy => by omega)
    clear hqa hqc hx4a
    replace h3 := h3.ext hx4
    conv => whnf
    refine ldA TryzT_ok (hq.cells (off := 0) (vs := cMsg x) (List.prefix_refl _)) ?_
    have z4 := hx4.size
    conv => whnf
    refine cl (ms_write h3 (by simp; omega) (by omega) x) ?_
    rintro v w5 ⟨h5, u5⟩
    conv => whnf
    refine Ar.i (by omega) ?_
    conv => whnf
    refine ⟨i + 1, ⟨by omega, mkfr _ ⟨rfl, rfl, rfl, rfl, trivial⟩, ?_, (u.trans hx4.mod).trans u5⟩, by omega⟩
    rw [take_snoc hx, List.flatMap_append, hE]
    simp only [List.flatMap_cons, List.flatMap_nil, List.append_nil]
    simpa [List.append_assoc] using h5
  · have : i = l.length := by omega
    subst this
    rw [List.take_length] at hE
    conv => whnf
    unfold encMs
    rw [hE, ← List.append_assoc]
    exact ⟨h3, u⟩

theorem encR_len (r : Row) : (encR r).length ≤ 131074 := by
  unfold encR
  have h1 := encT_len r.key
  have h2 := encT_len r.val
  simp; omega
theorem encMs_len (l : List Msg) : (encMs l).length ≤ 8 + l.length * 131200 := by
  unfold encMs
  have := flat_len_le encM_len l
  rw [List.length_append, encI_len]; omega
theorem encO_len {K : Nat} {o : Obj} (h : OB K o) : (encO o).length ≤ 100000 + K * 400000 := by
  unfold encO
  have h1 := encT_len o.name
  have h2 := flat_len_le encR_len o.rows
  have h3 := encMs_len o.msgs
  have h4 := encMs_len o.dead
  have := h.rows; have := h.msgs; have := h.dead
  simp only [List.length_append, encI_len]
  have e1 : o.rows.length * 131074 ≤ K * 131074 := Nat.mul_le_mul_right _ h.rows
  have e2 : o.msgs.length * 131200 ≤ K * 131200 := Nat.mul_le_mul_right _ h.msgs
  have e3 : o.dead.length * 131200 ≤ K * 131200 := Nat.mul_le_mul_right _ h.dead
  omega
theorem encOs_len {K : Nat} {l : List Obj} (h : ∀ o ∈ l, OB K o) : (l.flatMap encO).length ≤ l.length * (100000 + K * 400000) := by
  induction l with
  | nil => simp
  | cons o l ih =>
    have h1 := encO_len (h o List.mem_cons_self)
    have h2 := ih fun o ho => h o (List.mem_cons_of_mem _ ho)
    simp only [List.flatMap_cons, List.length_append, List.length_cons, Nat.add_mul]
    omega

/-- image.Bytes -/
theorem im_bytes {K : Nat} {w : World} {c : List Value} {s : Stt} (h : StC w c s) (hK : K ≤ 4000) (hb : 20 < s.objs.length ∨ SB K s) (hl : s.objs.length ≤ 1000000000) :
    Does Tryz.prog 70 [.agg ⟨c⟩] w fun u w' => Byt w.heap.size w' u (image s) ∧ Ext w w' := by
  have h0 := h
  obtain ⟨a, k, rfl, hob⟩ := h
  have X := Chg.refl (M := fun _ => False) w
  refine does1 TryzT_ok Tryz.func70 Tryz.call70 Tryz.ntmps70 Tryz.results70 ?_
  conv => whnf
  refine bx ?_
  conv => whnf
  intro p w1 hp hs1 hx1 _
  replace X := X.trans hx1
  replace h0 := h0.ext hx1
  conv => whnf
  refine ldA TryzT_ok (hp.cells (off := 0) (vs := cStt s a k) (List.prefix_refl _)) ?_
  conv => whnf
  refine cl (st_right h0 (by omega) hb hl) ?_
  rintro v w2 ⟨rfl, hx2⟩
  replace X := X.trans hx2
  replace hp := hp.ext hx2
  unfold image
  cases hsr : sRight s with
  | false =>
    conv => whnf
    exact ⟨⟨none, 0, rfl, Own.nil _ _ _, fun b hb => (blkOf_none _ _ _ hb).elim⟩, X⟩
  | true =>
    have hb : SB K s := hb.resolve_left (by
      intro h
      unfold sRight at hsr
      rw [decide_eq_false (show ¬ (1 ≤ s.next ∧ s.next ≤ 1099511627776 ∧ s.objs.length ≤ 20) by omega)] at hsr
      cases hsr)
    have hlen := hb.objs
    rw [if_pos rfl]
    conv => whnf
    refine bx ?_
    conv => whnf
    intro q w3 hq hs3 hx3 _
    have h3 := wr_new hq hs3
    have z3 := hx3.size
    replace X := X.trans hx3
    replace hp := hp.ext hx3
    -- all that is written lies in blocks from w2 on; what is read, ahead
    have hob2 := hob.ext (hx1.trans hx2)
    conv => whnf
    refine ld TryzT_ok hp ?_
    conv => whnf
    refine cl (wr_int h3 s.next (by simp) (by omega)) ?_
    rintro v w4 ⟨h4, u4⟩
    replace hp := hp.kp (u4.kp (by decide))
    have z4 := u4.size
    conv => whnf
    refine ld TryzT_ok hp ?_
    conv => whnf
    refine cl (wr_int h4 (s.objs.length : Int) (by simp) (by omega)) ?_
    rintro v w5 ⟨h5, u5⟩
    replace hp := hp.kp (u5.kp (by decide))
    have X5 : Ext w2 w5 := (hx3.then u4 fun _ h => h.1).then u5 fun _ h => h.1
    conv => whnf
    refine ld TryzT_ok hp ?_
    conv => whnf
    refine Cw.loopD TryzT_ok (ι := Nat) (fun i e w' => i ≤ s.objs.length ∧ (∃ g', e = fr g' [(3, .pointer (some ⟨q, 0, none⟩)), (23, .slice a s.objs.length k), (24, .int .i64 (s.objs.length : Int)), (25, .int .i64 (i : Int))]) ∧ WrR w2.heap.size w' q (encI s.next ++ encI s.objs.length ++ (s.objs.take i).flatMap encO) ∧ Ext w2 w')
      (fun i => s.objs.length - i) 0 ⟨by omega, mkfr _ ⟨rfl, rfl, rfl, rfl, trivial⟩, by simpa using h5, X5⟩ ?_
    rintro i e w6 ⟨hi, ⟨g', rfl⟩, h6, X6⟩
    have z6 := X6.size
    have hlen6 := encOs_len (l := s.objs.take i) fun o ho => hb.ob o (List.mem_of_mem_take ho)
    have hlen6' : ((s.objs.take i).flatMap encO).length ≤ 20 * 1600100000 := Nat.le_trans hlen6 (Nat.mul_le_mul (by simp; omega) (by omega))
    generalize hE : (s.objs.take i).flatMap encO = E at h6 hlen6'
    clear hlen6
    conv => whnf
    refine Cmp.dec (fun hlt => ?_) (fun hlt => ?_)
    · have hlt : i < s.objs.length := by omega
      obtain ⟨o, ho⟩ := getElem?_lt hlt
      have hOB := hb.ob o (List.mem_of_getElem? ho)
      have b1 := hOB.rows
      have b2 := hOB.msgs
      have b3 := hOB.dead
      have hR := hob2.ext X6
      obtain ⟨b, off, c', h7⟩ := hR.some (ne_nil_of_lt hlt)
      cases h7
      obtain ⟨a1, c1, a2, c2, a3, c3, hcs, hop⟩ := hR.at_ ho
      have lt := encT_len o.name
      conv => whnf
      refine ia (sz := 6) TryzT_ok ?_ ?_
      · omega
      conv => whnf
      refine ldA TryzT_ok hcs ?_
      conv => whnf
      refine al TryzT_ok ?_
      conv => whnf
      intro t w7a hta hts hx7a _
      conv => whnf
      refine stA TryzT_ok hta ?_
      conv => whnf
      intro w7 ht htc _
      have hx7 : Ext _ w7 := hx7a.then htc (fun y hy => by omega)
      clear hta htc hx7a
      replace X6 := X6.trans hx7
      replace h6 := h6.ext hx7
      replace hop := hop.ext hx7
      have z7 := X6.size
      conv => whnf
      refine ld TryzT_ok ht ?_
      conv => whnf
      refine cl (wr_text h6 o.name (by simp; omega) (by omega)) ?_
      rintro v w8 ⟨h8, u8⟩
      have z8 := u8.size
      replace ht := ht.kp (u8.kp (by decide))
      conv => whnf
      refine ld TryzT_ok ht ?_
      conv => whnf
      refine cl (wr_int h8 o.kind (by simp; omega) (by omega)) ?_
      rintro v w9 ⟨h9, u9⟩
      have z9 := u9.size
      replace ht := ht.kp (u9.kp (by decide))
      conv => whnf
      refine ld TryzT_ok ht ?_
      conv => whnf
      refine cl (wr_int h9 o.limit (by simp; omega) (by omega)) ?_
      rintro v w10 ⟨h10, u10⟩
      have z10 := u10.size
      replace ht := ht.kp (u10.kp (by decide))
      conv => whnf
      refine ld TryzT_ok ht ?_
      conv => whnf
      refine cl (wr_int h10 (o.rows.length : Int) (by simp; omega) (by omega)) ?_
      rintro v w11 ⟨h11, u11⟩
      have z11 := u11.size
      replace ht := ht.kp (u11.kp (by decide))
      have U11 := ((u8.trans u9).trans u10).trans u11
      have X11 : Ext w2 w11 := X6.then U11 fun _ h => h.1
      replace hop : ObjP w11 o a1 c1 a2 c2 a3 c3 := ⟨hop.rows.kp (U11.kp (by decide)), hop.msgs.kp (U11.kp (by decide)), hop.dead.kp (U11.kp (by decide))⟩
      generalize hF : encI s.next ++ encI s.objs.length ++ E ++ encT o.name ++ encI o.kind ++ encI o.limit ++ encI o.rows.length = F at h11
      have hFl : F.length ≤ 33000000000 := by rw [← hF]; simp; omega
      clear h8 h9 h10 u8 u9 u10 u11 h6 U11
      conv => whnf
      refine ld TryzT_ok ht ?_
      conv => whnf
      refine Cw.loopD TryzT_ok (ι := Nat) (fun j e w' => j ≤ o.rows.length ∧ (∃ g', e = fr g' [(3, .pointer (some ⟨q, 0, none⟩)), (5, .pointer (some ⟨t, 0, none⟩)), (23, .slice (some ⟨b, off, none⟩) s.objs.length k), (24, .int .i64 (s.objs.length : Int)), (25, .int .i64 (i : Int)), (47, .slice a1 o.rows.length c1), (48, .int .i64 (o.rows.length : Int)), (49, .int .i64 (j : Int))]) ∧ WrR w2.heap.size w' q (F ++ (o.rows.take j).flatMap encR) ∧ Up w2.heap.size w11 w')
        (fun j => o.rows.length - j) 0 ⟨by omega, mkfr _ ⟨rfl, rfl, rfl, rfl, rfl, rfl, rfl, rfl, trivial⟩, by simpa using h11, Mod.refl _ _ _⟩ ?_
      clear h11
      rintro j e w12 ⟨hj, ⟨g12, rfl⟩, h12, U12⟩
      have z12 := U12.size
      have hlen12 := flat_len_le encR_len (o.rows.take j)
      simp only [List.length_take] at hlen12
      generalize hG : (o.rows.take j).flatMap encR = G at h12 hlen12
      have hrr := hop.rows.kp (U12.kp (by decide))
      conv => whnf
      refine Cmp.dec (fun hjt => ?_) (fun hjt => ?_)
      · have hjt : j < o.rows.length := by omega
        obtain ⟨r, hr⟩ := getElem?_lt hjt
        obtain ⟨b8, o8, c8, h8⟩ := hrr.some (ne_nil_of_lt hjt)
        cases h8
        have l1 := encT_len r.key
        have l2 := encT_len r.val
        conv => whnf
        refine ia (sz := 2) TryzT_ok ?_ ?_
        · omega
        conv => whnf
        refine ldA TryzT_ok (hrr.cells cRow_len hr) ?_
        conv => whnf
        refine al TryzT_ok ?_
        conv => whnf
        intro y w13a hya hys hx13a _
        conv => whnf
        refine stA TryzT_ok hya ?_
        conv => whnf
        intro w13 hy hyc _
        have hx13 : Ext _ w13 := hx13a.then hyc (fun y hy => by omega)
        clear hya hyc hx13a
        replace h12 := h12.ext hx13
        have z13 := hx13.size
        conv => whnf
        refine ld TryzT_ok hy ?_
        conv => whnf
        refine cl (wr_text h12 r.key (by simp; omega) (by omega)) ?_
        rintro v w14 ⟨h14, u14⟩
        have z14 := u14.size
        replace hy := hy.kp (u14.kp (by decide))
        conv => whnf
        refine ld TryzT_ok hy ?_
        conv => whnf
        refine cl (wr_text h14 r.val (by simp; omega) (by omega)) ?_
        rintro v w15 ⟨h15, u15⟩
        conv => whnf
        refine Ar.i (by omega) ?_
        conv => whnf
        refine ⟨j + 1, ⟨by omega, mkfr _ ⟨rfl, rfl, rfl, rfl, rfl, rfl, rfl, rfl, trivial⟩, ?_, ((U12.trans hx13.mod).trans u14).trans u15⟩, by omega⟩
        rw [take_snoc hr, List.flatMap_append, hG]
        simp only [List.flatMap_cons, List.flatMap_nil, List.append_nil, encR]
        simpa [List.append_assoc] using h15
      · have : j = o.rows.length := by omega
        subst this
        rw [List.take_length] at hG
        have ht12 := ht.kp (U12.kp (by decide))
        conv => whnf
        refine ld TryzT_ok ht12 ?_
        conv => whnf
        refine cl (im_messages h12 (by simp; omega) (by omega) (hop.msgs.kp (U12.kp (by decide))) (by omega) (fun w' hu => (hop.msgs.kp (U12.kp (by decide))).kp (hu.kp (by decide)))) ?_
        rintro v w13 ⟨h13, u13⟩
        have z13 := u13.size
        have l3 := encMs_len o.msgs
        conv => whnf
        refine ld TryzT_ok (ht12.kp (u13.kp (by decide))) ?_
        have hdd := (hop.dead.kp (U12.kp (by decide))).kp (u13.kp (by decide))
        conv => whnf
        refine cl (im_messages h13 (by simp; omega) (by omega) hdd (by omega) (fun w' hu => hdd.kp (hu.kp (by decide)))) ?_
        rintro v w14 ⟨h14, u14⟩
        conv => whnf
        refine Ar.i (by omega) ?_
        conv => whnf
        refine ⟨i + 1, ⟨by omega, mkfr _ ⟨rfl, rfl, rfl, rfl, trivial⟩, ?_, X11.then ((U12.trans u13).trans u14) fun _ h => h.1⟩, by omega⟩
        rw [take_snoc ho, List.flatMap_append, hE]
        simp only [List.flatMap_cons, List.flatMap_nil, List.append_nil, encO]
        rw [← hF, ← hG] at h14
        simpa [List.append_assoc] using h14
    · have : i = s.objs.length := by omega
      subst this
      rw [List.take_length] at hE
      conv => whnf
      refine cl (wr_bytes h6 (by simp; omega)) ?_
      rintro v w7 ⟨h7, hx7⟩
      obtain ⟨a7, c7, rfl, ho7, hf7⟩ := h7
      conv => whnf
      unfold encS
      rw [hE]
      exact ⟨⟨a7, c7, rfl, ho7, fun b hb => by have := hf7 b hb; have := hx1.size; have := hx2.size; omega⟩, ((hx1.trans hx2).trans X6).trans hx7⟩
end Go.Pst

namespace Go.Pst
open Go Go.Proofs

/-- a store, as it is thought of -/
structure KSt where
  disk : DSt
  log : LSt
  k : Nat
  st : Stt
  epoch : Int
  dead : Bool

/-- variable p is a store without its log -/
structure KpB (B0 : Nat) (w : World) (p d : Nat) (lv : Value) (a : Option Addr) (c : Nat) (D : DSt) (s : Stt) (ep : Int) (dd : Bool) : Prop where
  var : Blk w p 80 [lv, .pointer (some ⟨d, 0, none⟩), .int .i64 s.next, .slice a s.objs.length c, .int .i64 ep, .bool dd]
  disk : DiskR (fun b => B0 ≤ b) w d D
  objs : ObjsR w (.slice a s.objs.length c) s.objs
  ge : B0 ≤ p
/-- variable p is a store -/
def KpR (B0 : Nat) (w : World) (p d : Nat) (S : KSt) : Prop :=
  ∃ lp a c, Blk w p 80 [.pointer (some ⟨lp, 0, none⟩), .pointer (some ⟨d, 0, none⟩), .int .i64 S.st.next, .slice a S.st.objs.length c, .int .i64 S.epoch, .bool S.dead] ∧
    DL B0 w d lp S.disk S.log S.k ∧ ObjsR w (.slice a S.st.objs.length c) S.st.objs ∧ B0 ≤ p
theorem KpR.ext {B0 : Nat} {w w' : World} {p d : Nat} {S : KSt} (h : KpR B0 w p d S) (hx : Ext w w') : KpR B0 w' p d S := by
  obtain ⟨lp, a, c, h1, h2, h3, h4⟩ := h; exact ⟨lp, a, c, h1.ext hx, h2.ext hx, h3.ext hx, h4⟩
/-- the types of a store's own blocks -/
def SK : List Nat := [75, 36, 102, 173, 80]
theorem SD_SK : ∀ E ∈ SD, E ∈ SK := by decide
theorem SL_SK : ∀ E ∈ SL, E ∈ SK := by decide
theorem ObjsR.mod {F : Nat → Prop} {S : List Nat} {w w' : World} {v : Value} {l : List Obj} (h : ObjsR w v l) (hm : Mod F S w w') (h1 : ¬ 45 ∈ S) (h2 : ¬ 120 ∈ S) (h3 : ¬ 33 ∈ S) : ObjsR w' v l :=
  h.kp (hm.kp h1) (hm.kp h2) (hm.kp h3)

/-- keep.Need -/
theorem kp_need (w : World) : Does Tryz.prog 11 [] w fun v w' => v = .int .i64 354 ∧ w' = w := by
  refine does1 TryzT_ok Tryz.func11 Tryz.call11 Tryz.ntmps11 Tryz.results11 ?_
  conv => whnf
  refine cl (ro_need w 96) ?_
  rintro v w1 ⟨rfl, rfl⟩
  conv => whnf
  refine Ar.to 354 (by decide) ?_
  conv => whnf
  exact ⟨rfl, rfl⟩

/-- the log of an epoch -/
def kLog (D : DSt) (ep : Int) : LSt × List (List UInt8) := lgOpen D 194 160 ep

theorem DiskR.in {F : Nat → Prop} {w : World} {d : Nat} {D : DSt} (h : DiskR F w d D) : DiskR (fun b => F b ∧ b < w.heap.size) w d D := h.mono fun b hb hf => ⟨hf, hb⟩

/-- begin -/
theorem kp_begin {B0 : Nat} {w : World} {p d : Nat} {lv : Value} {a : Option Addr} {c : Nat} {D : DSt} {s : Stt} {ep : Int} {dd : Bool} (h : KpB B0 w p d lv a c D s ep dd) (hD : D.now.length ≤ 4096) (hD2 : ∀ s ∈ D.now, s.length = 64) (hl1 : lv.oneCell' = true) :
    Does Tryz.prog 64 [.pointer (some ⟨p, 0, none⟩)] w fun _ w' => ∃ lp, KpB B0 w' p d (.pointer (some ⟨lp, 0, none⟩)) a c D s ep dd ∧ DiskR (fun b => B0 ≤ b ∧ b < w.heap.size) w' d D ∧ LogR w.heap.size w' lp d (kLog D ep).1 (kLog D ep).2 ∧ Mod (fun b => B0 ≤ b) SK w w' ∧ Chg (· = p) w w' := by
  obtain ⟨hv, hd, ho, hB⟩ := h
  have hdi := hd.in
  refine does0 TryzT_ok Tryz.func64 Tryz.call64 Tryz.ntmps64 Tryz.results64 ?_
  conv => whnf
  refine draw TryzT_ok Tryz_mixed (fun w1 hx1 _ => ?_)
  replace hv := hv.ext hx1
  replace ho := ho.ext hx1
  replace hd := hd.ext hx1
  replace hdi := hdi.ext hx1
  conv => whnf
  refine ldL TryzT_ok hv ?_
  conv => whnf
  refine ldL TryzT_ok hv ?_
  conv => whnf
  refine cl (ro_need w1 96) ?_
  rintro v w2 ⟨rfl, rfl⟩
  conv => whnf
  refine ⟨hv.cell 4, hv.cell 1, ?_⟩
  conv => whnf
  refine cl (lg_open hd hD hD2 194 160 ep (by omega)) ?_
  rintro v w3 ⟨lp, rfl, hL, hx3⟩
  have hsz := hx1.size
  replace hv := hv.ext hx3
  replace ho := ho.ext hx3
  replace hd := hd.ext hx3
  replace hdi := hdi.ext hx3
  conv => whnf
  refine st TryzT_ok hv ?_
  conv => whnf
  intro w4 hv4 hc4 hs4
  conv => whnf
  refine ⟨lp, ⟨hv4, hd.kp (hc4.kpb hv (by decide)) (hc4.kpb hv (by decide)) (hc4.kpb hv (by decide)) (hc4.kpb hv (by decide)), ho.kp (hc4.kpb hv (by decide)) (hc4.kpb hv (by decide)) (hc4.kpb hv (by decide)), hB⟩,
    hdi.kp (hc4.kpb hv (by decide)) (hc4.kpb hv (by decide)) (hc4.kpb hv (by decide)) (hc4.kpb hv (by decide)), ?_, (hx1.mod.trans hx3.mod).trans (hc4.modB hv hB (by decide)), (hx1.trans hx3).up.trans hc4⟩
  obtain ⟨al, cl, h1, h2, h3, h4⟩ := hL
  exact ⟨al, cl, Blk.kp h1 (hc4.kpb hv (by decide)), h2.kp (hc4.kpb hv (by decide)) (hc4.kpb hv (by decide)), by omega, fun b hb => by have := h4 b hb; omega⟩

/-- a store is whole again -/
theorem KpR.of {B0 : Nat} {w0 w : World} {p d lp : Nat} {a : Option Addr} {c : Nat} {D : DSt} {s : Stt} {ep : Int} {dd : Bool} {L : LSt} {R : List (List UInt8)} (h : KpB B0 w p d (.pointer (some ⟨lp, 0, none⟩)) a c D s ep dd)
    (hd : DiskR (fun b => B0 ≤ b ∧ b < w0.heap.size) w d D) (hL : LogR w0.heap.size w lp d L R) (hB : B0 ≤ w0.heap.size) : KpR B0 w p d ⟨D, L, R.length, s, ep, dd⟩ := by
  obtain ⟨al, cl, h1, ⟨cs, h2, _⟩, h3, h4⟩ := hL
  refine ⟨lp, a, c, h.var, ⟨al, cl, cs, h1, h2, hd.mono fun b _ hb => ⟨hb.1, fun hbl => by have := h4 b hbl; omega⟩, by omega, fun b hb => by have := h4 b hb; omega⟩, h.objs, h.ge⟩

def kRenew (S : KSt) : Int × KSt :=
  let x := rootsWr S.disk 0 96 (S.epoch + 1) (image S.st)
  if x.1 ≠ 0 then (12, { S with disk := x.2 })
  else (0, { S with disk := x.2, epoch := S.epoch + 1, log := (kLog x.2 (S.epoch + 1)).1, k := (kLog x.2 (S.epoch + 1)).2.length })
theorem DOk.rootsWr {K : Nat} {D : DSt} (h : DOk K D) (a area ep : Int) (l : List UInt8) : DOk (K + 4097) (Go.Pst.rootsWr D a area ep l).2 := by
  unfold Go.Pst.rootsWr
  generalize (if spIs D a 0 then rplace a (rcut area) ep else -1) = pt
  generalize (if spIs D a 0 then a + ep % 2 else -1) = fs
  have h1 := h.put pt l
  have h2 := h1.sync
  have h3 := h2.write fs (rootB ep l.length)
  split
  · exact h.mono (by omega)
  split
  · exact h.mono (by omega)
  simp only
  split
  · exact h1.mono (by omega)
  split
  · exact h1.mono (by omega)
  split
  · exact h2.mono (by omega)
  split
  · exact h3
  · exact h3.sync
theorem image_len {K : Nat} {s : Stt} (hK : K ≤ 4000) (hb : 20 < s.objs.length ∨ SB K s) : (image s).length ≤ 35000000000 := by
  unfold image
  split
  · rename_i hs
    have hb : SB K s := hb.resolve_left (by
      intro h
      unfold sRight at hs
      rw [decide_eq_false (show ¬ (1 ≤ s.next ∧ s.next ≤ 1099511627776 ∧ s.objs.length ≤ 20) by omega)] at hs
      cases hs)
    have h1 := encOs_len (l := s.objs) hb.ob
    have h2 : s.objs.length * (100000 + K * 400000) ≤ 20 * 1600100000 := Nat.mul_le_mul hb.objs (by omega)
    unfold encS
    simp only [List.length_append, encI_len]; omega
  · simp

/-- renew -/
theorem kp_renew {B0 K Ks : Nat} {w : World} {p d : Nat} {S : KSt} (h : KpR B0 w p d S) (hB0 : B0 ≤ w.heap.size) (hD : DOk K S.disk) (hK : K ≤ 90000000000) (hKs : Ks ≤ 4000) (hb : 20 < S.st.objs.length ∨ SB Ks S.st) (hl : S.st.objs.length ≤ 1000000000)
    (he : -9000000000000000000 ≤ S.epoch ∧ S.epoch < 9000000000000000000) :
    Does Tryz.prog 39 [.pointer (some ⟨p, 0, none⟩)] w fun v w' => v = .int .i64 (kRenew S).1 ∧ KpR B0 w' p d (kRenew S).2 ∧ Mod (fun b => B0 ≤ b) SK w w' := by
  obtain ⟨lp, a, c, hv, ⟨al, kl, cs, hlb, hlo, hd, hlp, hlbo⟩, ho, hB⟩ := h
  refine does1 TryzT_ok Tryz.func39 Tryz.call39 Tryz.ntmps39 Tryz.results39 ?_
  conv => whnf
  refine draw TryzT_ok Tryz_mixed (fun w1 hx1 _ => ?_)
  replace hv := hv.ext hx1
  replace hlb := hlb.ext hx1
  replace hlo := hlo.ext hx1
  replace hd := hd.ext hx1
  replace ho := ho.ext hx1
  conv => whnf
  refine ldL TryzT_ok hv ?_
  conv => whnf
  refine ldL TryzT_ok hv ?_
  conv => whnf
  refine Ar.i (by omega) ?_
  conv => whnf
  refine ldLA TryzT_ok (hv.cells (off := 2) (vs := cStt S.st a c) ⟨[.int .i64 S.epoch, .bool S.dead], rfl⟩) ?_
  conv => whnf
  refine cl (im_bytes (⟨a, c, rfl, ho⟩ : StC w1 (cStt S.st a c) S.st) hKs hb hl) ?_
  rintro v w2 ⟨⟨a2, c2, rfl, ho2, hf2⟩, hx2⟩
  replace hv := hv.ext hx2
  replace hlb := hlb.ext hx2
  replace hlo := hlo.ext hx2
  replace hd := hd.ext hx2
  replace ho := ho.ext hx2
  conv => whnf
  refine ⟨hv.cell 4, hv.cell 1, ?_⟩
  have hF : ∀ b, w2.heap.size ≤ b → B0 ≤ b ∧ ¬ blkOf (.slice al S.k kl) b := fun b hb => by
    have := hx1.size
    have := hx2.size
    refine ⟨by omega, fun h => ?_⟩
    have := (hlo.blk h).choose_spec.lt
    omega
  have hil := image_len hKs hb
  conv => whnf
  refine cl (ro_write hd hD (by omega) 0 96 (S.epoch + 1) ho2.sl (by omega) (by omega) (by omega) hF) ?_
  rintro v w3 ⟨rfl, hd3, hm3⟩
  have hv3 := hv.kp (hm3.kp (by decide))
  have hlb3 := Blk.kp hlb (hm3.kp (by decide))
  have hlo3 := hlo.chg hm3 (fun b hb h => h.1.2 hb)
  have ho3 := ho.mod hm3 (by decide) (by decide) (by decide)
  have hm : Mod (fun b => B0 ≤ b) SK w w3 := (hx1.mod.trans hx2.mod).trans (hm3.mono (fun b h => h.1) SD_SK)
  have hR : kRenew S = if (rootsWr S.disk 0 96 (S.epoch + 1) (image S.st)).1 ≠ 0 then (12, { S with disk := (rootsWr S.disk 0 96 (S.epoch + 1) (image S.st)).2 })
    else (0, { S with disk := (rootsWr S.disk 0 96 (S.epoch + 1) (image S.st)).2, epoch := S.epoch + 1, log := (kLog (rootsWr S.disk 0 96 (S.epoch + 1) (image S.st)).2 (S.epoch + 1)).1, k := (kLog (rootsWr S.disk 0 96 (S.epoch + 1) (image S.st)).2 (S.epoch + 1)).2.length }) := rfl
  have hD3 := hD.rootsWr 0 96 (S.epoch + 1) (image S.st)
  generalize rootsWr S.disk 0 96 (S.epoch + 1) (image S.st) = x at hd3 hR hD3 ⊢
  obtain ⟨r, D3⟩ := x
  simp only at hd3 hR hD3 ⊢
  conv => whnf
  refine Cmp.split (fun hr => ?_) (fun hr => ?_)
  · have hr : r ≠ 0 := by simpa using hr
    rw [if_pos hr] at hR
    conv => whnf
    rw [hR]
    exact ⟨rfl, ⟨lp, a, c, hv3, ⟨al, kl, cs, hlb3, hlo3, hd3, hlp, hlbo⟩, ho3, hB⟩, hm⟩
  · have hr : r = 0 := by simpa using hr
    rw [if_neg (by simpa using hr)] at hR
    conv => whnf
    refine ld TryzT_ok hv3 ?_
    conv => whnf
    refine Ar.i (by omega) ?_
    conv => whnf
    refine st TryzT_ok hv3 ?_
    conv => whnf
    intro w4 hv4 hc4 hs4
    have k4 := fun E' (hE : E' ≠ 80) => hc4.kpb hv3 (E' := E') hE
    have hz := hm.size
    conv => whnf
    refine cl (kp_begin ⟨hv4, (hd3.mono fun b _ h => h.1).kp (k4 _ (by decide)) (k4 _ (by decide)) (k4 _ (by decide)) (k4 _ (by decide)), ho3.kp (k4 _ (by decide)) (k4 _ (by decide)) (k4 _ (by decide)), hB⟩ hD3.len hD3.now rfl) ?_
    rintro v w5 ⟨lp5, h5, hd5, hL5, hm5, _⟩
    conv => whnf
    rw [hR]
    exact ⟨rfl, KpR.of h5 hd5 hL5 (by omega), (hm.trans (hc4.modB hv3 hB (by decide))).trans hm5⟩
end Go.Pst

namespace Go.Pst
open Go Go.Proofs

/-- a store as Open makes it and Do keeps it, behind n writes or so -/
structure KOk (n : Nat) (S : KSt) : Prop where
  disk : DOk n S.disk
  log : (S.k : Int) + 194 ≤ S.log.nx ∧ S.log.nx ≤ S.log.en ∧ S.log.en ≤ 354
  st : SB 300 S.st
  ep : 0 ≤ S.epoch ∧ S.epoch ≤ n

theorem lgAll_zero (D : DSt) (L : LSt) (R : List (List UInt8)) : lgAll D 0 L R = (L, R) := rfl
theorem lgAll_no {D : DSt} {L : LSt} {R : List (List UInt8)} (k : Nat) (h : lgFits L 0 = false) : lgAll D (k + 1) L R = (L, R) := by
  show (if lgFits L 0 then _ else _) = _
  rw [h]; rfl
theorem lgAll_none {D : DSt} {L : LSt} {R : List (List UInt8)} (k : Nat) (h : lgNext D L R = none) : lgAll D (k + 1) L R = (L, R) := by
  show (if lgFits L 0 then (match lgNext D L R with | some (L', R') => lgAll D k L' R' | none => (L, R)) else _) = _
  rw [h]; split <;> rfl
theorem lgAll_some {D : DSt} {L L' : LSt} {R R' : List (List UInt8)} (k : Nat) (hf : lgFits L 0 = true) (h : lgNext D L R = some (L', R')) : lgAll D (k + 1) L R = lgAll D k L' R' := by
  show (if lgFits L 0 then (match lgNext D L R with | some (L', R') => lgAll D k L' R' | none => (L, R)) else _) = _
  rw [h, hf]; rfl
theorem lgAll_ok {D : DSt} (k : Nat) : ∀ (L : LSt) (R : List (List UInt8)), L.nx ≤ L.en → (lgAll D k L R).1.en = L.en ∧ (lgAll D k L R).1.nx ≤ L.en ∧ L.nx - R.length ≤ (lgAll D k L R).1.nx - (lgAll D k L R).2.length := by
  induction k with
  | zero =>
    intro L R h
    rw [lgAll_zero]
    exact ⟨rfl, h, Int.le_refl _⟩
  | succ k ih =>
    intro L R h
    cases hf : lgFits L 0 with
    | true =>
      cases hn : lgNext D L R with
      | none =>
        rw [lgAll_none k hn]
        exact ⟨rfl, h, Int.le_refl _⟩
      | some x =>
        obtain ⟨L', R'⟩ := x
        obtain ⟨h1, h2, h3, h4, _⟩ := lgNext_ok hn
        have := ih L' R' (by omega)
        rw [lgAll_some k hf hn]
        refine ⟨by omega, by omega, by omega⟩
    | false =>
      rw [lgAll_no k hf]
      exact ⟨rfl, h, Int.le_refl _⟩
theorem kLog_ok {D : DSt} (ep : Int) : ((kLog D ep).2.length : Int) + 194 ≤ (kLog D ep).1.nx ∧ (kLog D ep).1.nx ≤ (kLog D ep).1.en ∧ (kLog D ep).1.en ≤ 354 := by
  unfold kLog lgOpen
  simp only
  have := lgAll_ok (D := D) ((if spIs D 194 0 then 194 + max 0 (min 160 ((D.now.length : Int) - 194)) else 194) - 194 : Int).toNat ⟨194, if spIs D 194 0 then 194 + max 0 (min 160 ((D.now.length : Int) - 194)) else 194, 194, ep, false⟩ [] (by simp only; split <;> omega)
  simp only [List.length_nil] at this
  obtain ⟨h1, h2, h3⟩ := this
  refine ⟨by omega, by omega, ?_⟩
  rw [h1]
  split <;> omega
theorem kRenew_ok {n : Nat} {S : KSt} (h : KOk n S) : KOk (n + 4098) (kRenew S).2 := by
  have hD := h.disk.rootsWr 0 96 (S.epoch + 1) (image S.st)
  have he := h.ep
  unfold kRenew
  simp only
  split
  · exact ⟨hD.mono (by omega), h.log, h.st, by simp only; omega⟩
  · exact ⟨hD.mono (by omega), kLog_ok _, h.st, by simp only; omega⟩

def kApp (S : KSt) (b : List UInt8) : Int × KSt :=
  let z := lgApp S.disk S.log S.k b
  (z.1, { S with disk := z.2.1, log := z.2.2.1, k := z.2.2.2 })
def kAppend (S : KSt) (b : List UInt8) : Int × KSt :=
  if lgRoom S.log < b.length then
    if 10176 < b.length then (9, S)
    else if (kRenew S).1 ≠ 0 then ((kRenew S).1, (kRenew S).2) else kApp (kRenew S).2 b
  else kApp S b
theorem kApp_ok {n : Nat} {S : KSt} (h : KOk n S) (b : List UInt8) : KOk (n + 4098) (kApp S b).2 := by
  have hD := h.disk.lgApp S.log S.k b
  have hl := h.log
  have he := h.ep
  refine ⟨hD, ?_, h.st, by simp only [kApp]; omega⟩
  simp only [kApp, lgApp]
  split
  · exact hl
  split
  · exact hl
  rename_i hf
  have hf : lgFits S.log b.length = true := by simpa using hf
  simp only [lgFits, decide_eq_true_eq, needI_nat] at hf
  split
  · simp only; omega
  · exact hl
theorem kAppend_ok {n : Nat} {S : KSt} (h : KOk n S) (b : List UInt8) : KOk (n + 8196) (kAppend S b).2 := by
  have mono : ∀ {n n' : Nat} {S : KSt}, KOk n S → n ≤ n' → KOk n' S := fun h hn => ⟨h.disk.mono hn, h.log, h.st, by have := h.ep; omega⟩
  unfold kAppend
  split
  · split
    · exact mono h (by omega)
    split
    · exact mono (kRenew_ok h) (by omega)
    · exact mono (kApp_ok (kRenew_ok h) b) (by omega)
  · exact mono (kApp_ok h b) (by omega)

/-- the log's Append, of a store -/
theorem kp_app {B0 n : Nat} {w : World} {p d : Nat} {S : KSt} (h : KpR B0 w p d S) (hk : KOk n S) (hn : n ≤ 90000000000) {v : Value} {b : List UInt8} (hv : Sl w v 5 1 b.length (B b)) (hb : b.length ≤ 1000000000) {lp : Nat} {cs : List Value} (hlp : Blk w p 80 (.pointer (some ⟨lp, 0, none⟩) :: cs)) :
    Does Tryz.prog 73 [.pointer (some ⟨lp, 0, none⟩), v] w fun r w' => r = .int .i64 (kApp S b).1 ∧ KpR B0 w' p d (kApp S b).2 ∧ Mod (fun b => B0 ≤ b) SK w w' := by
  obtain ⟨lp', a, c, hvv, hdl, ho, hB⟩ := h
  have := (hvv.inj hlp).2
  simp only [List.cons.injEq, Value.pointer.injEq, Option.some.injEq, Addr.mk.injEq] at this
  obtain ⟨⟨rfl, _⟩, _⟩ := this
  have hl := hk.log
  refine (lg_append hdl hk.disk (by omega) ⟨by omega, by omega⟩ (by omega) hv hb).mono ?_
  rintro r w' ⟨rfl, h1, hm⟩
  refine ⟨rfl, ⟨lp', a, c, hvv.kp (hm.kp (by decide)), h1, ho.mod hm (by decide) (by decide) (by decide), hB⟩, hm.mono (fun _ h => h) SL_SK⟩

/-- append -/
theorem kp_append {B0 n : Nat} {w : World} {p d : Nat} {S : KSt} (h : KpR B0 w p d S) (hB0 : B0 ≤ w.heap.size) (hk : KOk n S) (hn : n ≤ 10000000000) {v : Value} {b : List UInt8} (hv : Sl w v 5 1 b.length (B b)) (hb : b.length ≤ 1000000000) :
    Does Tryz.prog 41 [.pointer (some ⟨p, 0, none⟩), v] w fun r w' => r = .int .i64 (kAppend S b).1 ∧ KpR B0 w' p d (kAppend S b).2 ∧ Mod (fun b => B0 ≤ b) SK w w' := by
  obtain ⟨av, cv, rfl⟩ := hv.isSlice
  have hl := hk.log
  have he := hk.ep
  have h0 := h
  obtain ⟨lp, a, c, hvv, ⟨al, kl, cs, hlb, hlo, hd, hlp, hlbo⟩, ho, hB⟩ := h
  have h2 := Chg.refl (M := fun _ => False) w
  refine does1 TryzT_ok Tryz.func41 Tryz.call41 Tryz.ntmps41 Tryz.results41 ?_
  conv => whnf
  refine ld TryzT_ok hvv ?_
  conv => whnf
  refine cl (lg_room hlb ⟨by omega, by omega⟩) ?_
  rintro v w1 ⟨rfl, hx1⟩
  have h1 := h0.ext hx1
  have hvv1 := hvv.ext hx1
  have hv1 := hv.ext hx1
  have hz := hx1.size
  unfold kAppend
  conv => whnf
  refine Cmp.dec (fun hr => ?_) (fun hr => ?_)
  · rw [if_pos hr]
    conv => whnf
    refine Cmp.dec (fun hlong => ?_) (fun hlong => ?_)
    · rw [if_pos (by omega)]
      conv => whnf
      exact ⟨rfl, h1, hx1.mod⟩
    rw [if_neg (by omega)]
    conv => whnf
    refine cl (kp_renew h1 (by omega) hk.disk (by omega) (by omega) (.inr hk.st) (by have := hk.st.objs; omega) (by omega)) ?_
    rintro v w2 ⟨rfl, h2, hm2⟩
    have hk2 := kRenew_ok hk
    have hv2 := hv1.kp (hm2.kp (by decide))
    generalize kRenew S = x at h2 hk2 ⊢
    obtain ⟨r, S2⟩ := x
    simp only at h2 hk2 ⊢
    conv => whnf
    refine Cmp.split (fun hr2 => ?_) (fun hr2 => ?_)
    · have hr2 : r ≠ 0 := by simpa using hr2
      rw [if_pos hr2]
      conv => whnf
      exact ⟨rfl, h2, hx1.mod.trans hm2⟩
    · have hr2 : r = 0 := by simpa using hr2
      rw [if_neg (by simpa using hr2)]
      have h2' := h2
      obtain ⟨lp2, a2, c2, hvv2, _⟩ := h2'
      conv => whnf
      refine ld TryzT_ok hvv2 ?_
      conv => whnf
      refine cl (kp_app h2 hk2 (by omega) hv2 hb hvv2) ?_
      rintro v w3 ⟨rfl, h3, hm3⟩
      conv => whnf
      exact ⟨rfl, h3, (hx1.mod.trans hm2).trans hm3⟩
  · rw [if_neg hr]
    conv => whnf
    refine ld TryzT_ok hvv1 ?_
    conv => whnf
    refine cl (kp_app h1 hk (by omega) hv1 hb hvv1) ?_
    rintro v w3 ⟨rfl, h3, hm3⟩
    conv => whnf
    exact ⟨rfl, h3, hx1.mod.trans hm3⟩

def kDo (S : KSt) (l : List Eff) : Int × KSt :=
  if S.dead then (12, S)
  else if (sApply S.st l).1 ≠ 0 then ((sApply S.st l).1, S)
  else if 6000 < sSize (sApply S.st l).2 then (9, S)
  else if l.length = 0 then (0, S)
  else ((kAppend S (encEs l)).1, { (kAppend S (encEs l)).2 with dead := decide ((kAppend S (encEs l)).1 = 12), st := if (kAppend S (encEs l)).1 = 0 then (sApply S.st l).2 else (kAppend S (encEs l)).2.st })

theorem kDo_ok {n : Nat} {S : KSt} (h : KOk n S) (l : List Eff) : KOk (n + 8196) (kDo S l).2 := by
  have mono : KOk (n + 8196) S := ⟨h.disk.mono (by omega), h.log, h.st, by have := h.ep; omega⟩
  unfold kDo
  split
  · exact mono
  split
  · exact mono
  rename_i h1
  split
  · exact mono
  rename_i h2
  split
  · exact mono
  have h1 : (sApply S.st l).1 = 0 := by simpa using h1
  obtain ⟨hr, hd, he⟩ := sApply_ok h1
  have ha := kAppend_ok h (encEs l)
  refine ⟨ha.disk, ha.log, ?_, ha.ep⟩
  simp only
  split
  · rw [he] at h2 ⊢
    exact sSize_sb (sDos_sb h.st l) (by omega)
  · exact ha.st

theorem encEs_len (l : List Eff) : (encEs l).length ≤ 8 + l.length * 400000 := by
  unfold encEs
  have := flat_len_le encE_len l
  rw [List.length_append, encI_len]; omega

/-- Do -/
theorem kp_do {B0 n : Nat} {w : World} {p d : Nat} {S : KSt} (h : KpR B0 w p d S) (hB0 : B0 ≤ w.heap.size) (hk : KOk n S) (hn : n ≤ 10000000000) {v : Value} {l : List Eff} (hv : EffsR w v l) (hl : l.length ≤ 1000) :
    Does Tryz.prog 14 [.pointer (some ⟨p, 0, none⟩), v] w fun r w' => r = .int .i64 (kDo S l).1 ∧ KpR B0 w' p d (kDo S l).2 ∧ Mod (fun b => B0 ≤ b) SK w w' := by
  obtain ⟨av, cv, rfl⟩ := hv.isSlice
  have X := Chg.refl (M := fun _ => False) w
  have hlen := encEs_len l
  have h0 := h
  obtain ⟨lp, a, c, hvv, hdl, ho, hB⟩ := h
  have hD : kDo S l = (if S.dead then (12, S)
    else if (sApply S.st l).1 ≠ 0 then ((sApply S.st l).1, S)
    else if 6000 < sSize (sApply S.st l).2 then (9, S)
    else if l.length = 0 then (0, S)
    else ((kAppend S (encEs l)).1, { (kAppend S (encEs l)).2 with dead := decide ((kAppend S (encEs l)).1 = 12), st := if (kAppend S (encEs l)).1 = 0 then (sApply S.st l).2 else (kAppend S (encEs l)).2.st })) := rfl
  refine does1 TryzT_ok Tryz.func14 Tryz.call14 Tryz.ntmps14 Tryz.results14 ?_
  conv => whnf
  refine ld TryzT_ok hvv ?_
  cases hdd : S.dead with
  | true =>
    rw [hdd, if_pos rfl] at hD
    conv => whnf
    rw [hD]
    exact ⟨rfl, h0, X.mod⟩
  | false =>
    rw [hdd, if_neg (by decide)] at hD
    conv => whnf
    refine ldA TryzT_ok (hvv.cells (off := 2) (vs := cStt S.st a c) ⟨[.int .i64 S.epoch, .bool S.dead], by rw [hdd]; rfl⟩) ?_
    have hb := hk.st
    conv => whnf
    refine cl (st_apply (⟨a, c, rfl, ho⟩ : StC w (cStt S.st a c) S.st) (by omega) (.inr hb) (by have := hb.objs; omega) hv (by omega)) ?_
    rintro v w1 ⟨c1, rfl, ⟨a1, k1, rfl, ho1⟩, hx1⟩
    replace X := X.trans hx1
    replace h0 := h0.ext hx1
    replace hv := hv.ext hx1
    generalize hx : sApply S.st l = x at hD ho1 ⊢
    obtain ⟨r, s1⟩ := x
    simp only at hD ho1 ⊢
    conv => whnf
    refine al TryzT_ok ?_
    conv => whnf
    intro q w2a hqa hqs hx2a _
    conv => whnf
    refine stA TryzT_ok hqa ?_
    conv => whnf
    intro w2 hq hqc _
    have hx2 : Ext _ w2 := hx2a.then hqc (fun y hy => by omega)
    clear hqa hqc hx2a
    replace X := X.trans hx2
    replace h0 := h0.ext hx2
    replace hv := hv.ext hx2
    replace ho1 := ho1.ext hx2
    conv => whnf
    refine Cmp.split (fun hr => ?_) (fun hr => ?_)
    · have hr : r ≠ 0 := by simpa using hr
      rw [if_pos hr] at hD
      conv => whnf
      rw [hD]
      exact ⟨rfl, h0, X.mod⟩
    have hr : r = 0 := by simpa using hr
    subst hr
    rw [if_neg (by simp)] at hD
    have hap := sApply_ok (s := S.st) (l := l) (by rw [hx])
    rw [hx] at hap
    simp only at hap
    obtain ⟨hsr, hds, he⟩ := hap
    have hb1 : SB 1300 s1 := by rw [he]; exact (sDos_sb hb l).mono (by omega)
    have hz1 : SZ s1 := by rw [he]; exact sDos_sz (sRight_sz hsr) l
    conv => whnf
    refine ldA TryzT_ok (hq.cells (off := 0) (vs := cStt s1 a1 k1) (List.prefix_refl _)) ?_
    conv => whnf
    refine cl (st_size (⟨a1, k1, rfl, ho1⟩ : StC w2 (cStt s1 a1 k1) s1) (by omega) hb1 hz1) ?_
    rintro v w3 ⟨rfl, hx3⟩
    replace X := X.trans hx3
    replace h0 := h0.ext hx3
    replace hv := hv.ext hx3
    replace ho1 := ho1.ext hx3
    replace hq := hq.ext hx3
    conv => whnf
    refine Cmp.dec (fun hsz => ?_) (fun hsz => ?_)
    · rw [if_pos hsz] at hD
      conv => whnf
      rw [hD]
      exact ⟨rfl, h0, X.mod⟩
    rw [if_neg hsz] at hD
    conv => whnf
    refine Cmp.split (fun hl0 => ?_) (fun hl0 => ?_)
    · have hl0 : l.length = 0 := by simp at hl0; simp [hl0]
      rw [if_pos hl0] at hD
      conv => whnf
      rw [hD]
      exact ⟨rfl, h0, X.mod⟩
    have hl0 : ¬ l.length = 0 := by simp at hl0; simpa using hl0
    rw [if_neg hl0] at hD
    conv => whnf
    refine cl (ef_bytes hv (by omega)) ?_
    rintro v w4 ⟨⟨a4, c4, rfl, ho4, hf4⟩, hx4⟩
    replace X := X.trans hx4
    replace h0 := h0.ext hx4
    replace ho1 := ho1.ext hx4
    replace hq := hq.ext hx4
    have hz := X.size
    conv => whnf
    refine cl (kp_append h0 (by omega) hk hn ho4.sl (by omega)) ?_
    rintro v w5 ⟨rfl, h5, hm5⟩
    generalize kAppend S (encEs l) = y at hD h5 ⊢
    obtain ⟨r, S5⟩ := y
    simp only at hD h5 ⊢
    have hq5 := hq.kp (hm5.kp (by decide))
    have ho5 := ho1.mod hm5 (by decide) (by decide) (by decide)
    obtain ⟨lp5, a5, c5, hvv5, hdl5, ho5', hB5⟩ := h5
    conv => whnf
    refine Cmp.keep ?_
    conv => whnf
    refine st TryzT_ok hvv5 ?_
    conv => whnf
    intro w6 hv6 hc6 hs6
    have hm6 : Mod (fun b => B0 ≤ b) SK w w6 := (X.mod.trans hm5).trans (hc6.modB hvv5 hB5 (by decide))
    have kk := fun E' (hE : E' ≠ 80) => hc6.kpb hvv5 (E' := E') hE
    have dl : ∀ w7, (∀ E', E' ≠ 80 → Kp E' w5 w7) → DL B0 w7 d lp5 S5.disk S5.log S5.k := by
      intro w7 kk
      obtain ⟨al, kl, cs, h1, h2, h3, h4⟩ := hdl5
      exact ⟨al, kl, cs, Blk.kp h1 (kk _ (by decide)), h2.kp (kk _ (by decide)), h3.kp (kk _ (by decide)) (kk _ (by decide)) (kk _ (by decide)) (kk _ (by decide)), h4⟩
    conv => whnf
    refine Cmp.split (fun hr => ?_) (fun hr => ?_)
    · have hr : r = 0 := by simpa using hr
      subst hr
      conv => whnf
      refine ldA TryzT_ok ((hq5.kp (kk _ (by decide))).cells (off := 0) (vs := cStt s1 a1 k1) (List.prefix_refl _)) ?_
      conv => whnf
      refine stA TryzT_ok hv6 ?_
      conv => whnf
      intro w7 hv7 hc7 hs7
      conv => whnf
      rw [hD]
      have kk7 := fun E' (hE : E' ≠ 80) => (kk E' hE).trans (hc7.kpb hv6 (E' := E') hE)
      refine ⟨rfl, ⟨lp5, a1, k1, hv7, dl w7 kk7, ho5.kp (kk7 _ (by decide)) (kk7 _ (by decide)) (kk7 _ (by decide)), hB5⟩, hm6.trans (hc7.modB hv6 hB5 (by decide))⟩
    · have hr : r ≠ 0 := by simpa using hr
      conv => whnf
      rw [hD]
      rw [if_neg hr]
      exact ⟨rfl, ⟨lp5, a5, c5, hv6, dl w6 kk, ho5'.kp (kk _ (by decide)) (kk _ (by decide)) (kk _ (by decide)), hB5⟩, hm6⟩

/-- State -/
theorem kp_state {B0 : Nat} {w : World} {p d : Nat} {S : KSt} (h : KpR B0 w p d S) (hb : SB 300 S.st) :
    Does Tryz.prog 16 [.pointer (some ⟨p, 0, none⟩)] w fun v w' => ∃ c, v = .agg ⟨c⟩ ∧ StC w' c S.st ∧ Ext w w' := by
  obtain ⟨lp, a, c, hvv, hdl, ho, hB⟩ := h
  refine doesC1 TryzT_ok Tryz.func16 Tryz.call16 Tryz.ntmps16 Tryz.results16 ?_
  conv => whnf
  refine al TryzT_ok ?_
  conv => whnf
  intro q w1 hq hs1 hx1 _
  conv => whnf
  refine ldA TryzT_ok ((hvv.ext hx1).cells (off := 2) (vs := cStt S.st a c) ⟨[.int .i64 S.epoch, .bool S.dead], rfl⟩) ?_
  conv => whnf
  refine cl (st_clone (⟨a, c, rfl, ho.ext hx1⟩ : StC w1 (cStt S.st a c) S.st) (by omega) hb) ?_
  rintro v w2 ⟨a2, k2, cs2, rfl, ho2, hr2, hf2, hx2⟩
  have hq2 := hq.ext hx2
  conv => whnf
  refine stA TryzT_ok hq2 ?_
  conv => whnf
  intro w3 hq3 hc3 hs3
  conv => whnf
  refine ⟨_, hq3.cells (off := 0) (vs := cStt S.st a2 k2) (List.prefix_refl _), rfl, ?_⟩
  exact ⟨_, rfl, ⟨a2, k2, rfl, cs2, (ho2.kp (hc3.kpb hq2 (by decide))).sl, hr2.kp (hc3.kpb hq2 (by decide)) (hc3.kpb hq2 (by decide))⟩, (hx1.trans hx2).then hc3 fun y hy => by omega⟩

/-- Epoch -/
theorem kp_epoch {B0 : Nat} {w : World} {p d : Nat} {S : KSt} (h : KpR B0 w p d S) :
    Does Tryz.prog 17 [.pointer (some ⟨p, 0, none⟩)] w fun v w' => v = .int .i64 S.epoch ∧ w' = w := by
  obtain ⟨lp, a, c, hvv, hdl, ho, hB⟩ := h
  refine does1 TryzT_ok Tryz.func17 Tryz.call17 Tryz.ntmps17 Tryz.results17 ?_
  conv => whnf
  refine ld TryzT_ok hvv ?_
  conv => whnf
  exact ⟨rfl, rfl⟩
end Go.Pst

