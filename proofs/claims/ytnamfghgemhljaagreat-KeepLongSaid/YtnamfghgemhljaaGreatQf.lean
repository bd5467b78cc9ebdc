/- What functions of the program do, fifth part; no conditions. -/
import Derived.Test.YtnamfghgemhljaaGreatQe
namespace Go.Pst
open Go Go.Proofs

theorem Chg.thenN {M M' : Nat → Prop} {w w1 w2 : World} (h : Chg M w w1) (h' : Chg M' w1 w2) (hm : ∀ b, M' b → w.heap.size ≤ b ∨ M b) : Chg M w w2 :=
  ⟨Nat.le_trans h.size h'.size, fun b hb hn => (h'.keep b (Nat.lt_of_lt_of_le hb h.size) fun h => (hm b h).elim (fun h => by omega) hn).trans (h.keep b hb hn), h'.os.trans h.os, h'.out.trans h.out, h.shp.trans h'.shp, fun a => (h'.fz a).trans (h.fz a)⟩
/-- a reader stays where a variable of another type is laid into -/
theorem RdR.oth {w w' : World} {p q : Nat} {r : Rd} {E : Nat} {cs : List Value} (h : RdR w p r) (hb : Blk w q E cs) (hc : Chg (· = q) w w') (h1 : 204 ≠ E) (h2 : 5 ≠ E) : RdR w' p r := by
  cases r with
  | none => exact Blk.kp h (hc.kpb hb h1)
  | some l => obtain ⟨a, c, h3, h4⟩ := h; exact ⟨a, c, h3.kp (hc.kpb hb h1), h4.kp (hc.kpb hb h2)⟩
theorem RdR.kp {w w' : World} {p : Nat} {r : Rd} (h : RdR w p r) (h1 : Kp 204 w w') (h2 : Kp 5 w w') : RdR w' p r := by
  cases r with
  | none => exact Blk.kp h h1
  | some l => obtain ⟨a, c, h3, h4⟩ := h; exact ⟨a, c, h3.kp h1, h4.kp h2⟩
theorem RdR.kpr {w w' : World} {p : Nat} {r : Rd} (h : RdR w p r) (hc : Chg (· = p) w w') {E : Nat} (hE : E ≠ 204) : Kp E w w' := by
  obtain ⟨cs, hb⟩ := h.blk; exact hc.kpb hb hE
theorem RdR.lt {w : World} {p : Nat} {r : Rd} (h : RdR w p r) : p < w.heap.size := by
  obtain ⟨cs, hb⟩ := h.blk; exact hb.lt

/-- message.Read -/
theorem ms_read {w : World} {p : Nat} {r : Rd} (h : RdR w p r) :
    Does Tryz.prog 168 [.pointer (some ⟨p, 0, none⟩)] w fun v w' => v = .agg ⟨cMsg (rdMsg r).1⟩ ∧ RdR w' p (rdMsg r).2 ∧ Chg (· = p) w w' := by
  refine doesC1 TryzT_ok Tryz.func168 Tryz.call168 Tryz.ntmps168 Tryz.results168 ?_
  conv => whnf
  refine al TryzT_ok ?_
  conv => whnf
  intro q w1 hq hs1 hx1 _
  have hz1 := hx1.size
  replace h := h.ext hx1
  have X : Chg (· = p) w w1 := hx1.up
  conv => whnf
  refine cl (rd_int h) ?_
  rintro v w2 ⟨rfl, h2, hc2⟩
  replace hq := hq.kp (h.kpr hc2 (by decide))
  replace X := X.trans hc2
  conv => whnf
  refine cl (rd_int h2) ?_
  rintro v w3 ⟨rfl, h3, hc3⟩
  replace hq := hq.kp (h2.kpr hc3 (by decide))
  replace X := X.trans hc3
  conv => whnf
  refine cl (rd_int h3) ?_
  rintro v w4 ⟨rfl, h4, hc4⟩
  replace hq := hq.kp (h3.kpr hc4 (by decide))
  replace X := X.trans hc4
  have hz4 := X.size
  conv => whnf
  refine al TryzT_ok ?_
  conv => whnf
  intro t w5a hta hts hx5a _
  conv => whnf
  refine stA TryzT_ok hta ?_
  conv => whnf
  intro w5 ht htc _
  have hx5 : Ext _ w5 := hx5a.then htc (fun y hy => by omega)
  clear hta htc hx5a
  replace hq := hq.ext hx5
  replace h4 := h4.ext hx5
  replace X := X.trans hx5.up
  have htw : w.heap.size ≤ t := by
    have := hx1.size; have := hc2.size; have := hc3.size; have := hc4.size; omega
  have hqt : ¬ q = t := by have := hc2.size; have := hc3.size; have := hc4.size; omega
  conv => whnf
  refine cl (rd_flag h4) ?_
  rintro v w6 ⟨rfl, h6, hc6⟩
  replace hq := hq.kp (h4.kpr hc6 (by decide))
  replace ht := ht.kp (h4.kpr hc6 (by decide))
  replace X := X.trans hc6
  conv => whnf
  refine st TryzT_ok ht ?_
  conv => whnf
  intro w7 ht7 hc7 hs7
  replace hq := hq.chg hc7 hqt
  replace h6 := h6.oth ht hc7 (by decide) (by decide)
  replace X := X.thenN hc7 fun b (hb : b = t) => .inl (by omega)
  clear ht hc7
  conv => whnf
  refine cl (rd_text h6) ?_
  rintro v w8 ⟨rfl, h8, hc8⟩
  replace hq := hq.kp (h6.kpr hc8 (by decide))
  replace ht7 := ht7.kp (h6.kpr hc8 (by decide))
  replace X := X.trans hc8
  conv => whnf
  refine st TryzT_ok ht7 ?_
  conv => whnf
  intro w9 ht9 hc9 hs9
  replace hq := hq.chg hc9 hqt
  replace h8 := h8.oth ht7 hc9 (by decide) (by decide)
  replace X := X.thenN hc9 fun b (hb : b = t) => .inl (by omega)
  conv => whnf
  refine cl (rd_text h8) ?_
  rintro v w10 ⟨rfl, h10, hc10⟩
  replace hq := hq.kp (h8.kpr hc10 (by decide))
  replace ht9 := ht9.kp (h8.kpr hc10 (by decide))
  replace X := X.trans hc10
  conv => whnf
  refine st TryzT_ok ht9 ?_
  conv => whnf
  intro w11 ht11 hc11 hs11
  replace hq := hq.chg hc11 hqt
  replace h10 := h10.oth ht9 hc11 (by decide) (by decide)
  replace X := X.thenN hc11 fun b (hb : b = t) => .inl (by omega)
  conv => whnf
  refine cl (rd_failed h10) ?_
  rintro v w12 ⟨rfl, rfl⟩
  have e1 : rdMsg r = (if (rdText (rdText (rdFlag (rdInt (rdInt (rdInt r).2).2).2).2).2).2.isNone then m0 else ⟨(rdInt r).1, (rdInt (rdInt r).2).1, (rdInt (rdInt (rdInt r).2).2).1, (rdFlag (rdInt (rdInt (rdInt r).2).2).2).1, (rdText (rdFlag (rdInt (rdInt (rdInt r).2).2).2).2).1, (rdText (rdText (rdFlag (rdInt (rdInt (rdInt r).2).2).2).2).2).1⟩, (rdText (rdText (rdFlag (rdInt (rdInt (rdInt r).2).2).2).2).2).2) := rfl
  rw [e1]
  generalize (rdText (rdText (rdFlag (rdInt (rdInt (rdInt r).2).2).2).2).2).2 = r6 at h10 ⊢
  cases r6 with
  | none =>
    conv => whnf
    refine stA TryzT_ok hq ?_
    conv => whnf
    intro w13 hq13 hc13 hs13
    conv => whnf
    exact ⟨_, hq13.cells (off := 0) (vs := cMsg m0) (List.prefix_refl _), rfl, rfl, h10.oth hq hc13 (by decide) (by decide), X.thenN hc13 fun b (hb : b = q) => .inl (by omega)⟩
  | some l =>
    conv => whnf
    refine ldA TryzT_ok (ht11.cells (off := 0) (List.prefix_refl _)) ?_
    conv => whnf
    refine stA TryzT_ok hq ?_
    conv => whnf
    intro w13 hq13 hc13 hs13
    conv => whnf
    exact ⟨_, hq13.cells (off := 0) (List.prefix_refl _), rfl, rfl, h10.oth hq hc13 (by decide) (by decide), X.thenN hc13 fun b (hb : b = q) => .inl (by omega)⟩

def rdEff (r : Rd) : Eff × Rd :=
  let x1 := rdInt r
  let x2 := rdText x1.2
  let x3 := rdText x2.2
  let x4 := rdText x3.2
  let x5 := rdInt x4.2
  let x6 := rdInt x5.2
  let x7 := rdFlag x6.2
  let x8 := rdMsg x7.2
  (⟨x1.1, x2.1, x3.1, x4.1, x5.1, x6.1, x7.1, x8.1⟩, x8.2)

/-- effect.read -/
theorem ef_read1 {w : World} {p : Nat} {r : Rd} (h : RdR w p r) :
    Does Tryz.prog 129 [.pointer (some ⟨p, 0, none⟩)] w fun v w' => v = .agg ⟨cEff (rdEff r).1⟩ ∧ RdR w' p (rdEff r).2 ∧ Chg (· = p) w w' := by
  refine doesC1 TryzT_ok Tryz.func129 Tryz.call129 Tryz.ntmps129 Tryz.results129 ?_
  conv => whnf
  refine al TryzT_ok ?_
  conv => whnf
  intro q w1 hq hs1 hx1 _
  have hz1 := hx1.size
  replace h := h.ext hx1
  have X : Chg (· = p) w w1 := hx1.up
  conv => whnf
  refine cl (rd_int h) ?_
  rintro v w2 ⟨rfl, h2, hc2⟩
  replace hq := hq.kp (h.kpr hc2 (by decide))
  clear h
  have h := h2
  clear h2
  replace X := X.trans hc2
  conv => whnf
  refine al TryzT_ok ?_
  conv => whnf
  intro t w5a hta hts hx5a _
  conv => whnf
  refine stA TryzT_ok hta ?_
  conv => whnf
  intro w5 ht htc _
  have hx5 : Ext _ w5 := hx5a.then htc (fun y hy => by omega)
  clear hta htc hx5a
  replace hq := hq.ext hx5
  replace h := h.ext hx5
  replace X := X.trans hx5.up
  have htw : w.heap.size ≤ t := by have := hc2.size; omega
  have hqt : ¬ q = t := by have := hc2.size; omega
  conv => whnf
  refine cl (rd_text h) ?_
  rintro v w6 ⟨rfl, h2, hc2⟩
  replace hq := hq.kp (h.kpr hc2 (by decide))
  replace ht := ht.kp (h.kpr hc2 (by decide))
  replace X := X.trans hc2
  clear h
  conv => whnf
  refine st TryzT_ok ht ?_
  conv => whnf
  intro w7 ht7 hc7 hs7
  replace hq := hq.chg hc7 hqt
  have h := h2.oth ht hc7 (by decide) (by decide)
  replace X := X.thenN hc7 fun b (hb : b = t) => .inl (by omega)
  clear ht hc7 h2 hc2
  have ht := ht7
  clear ht7
  conv => whnf
  refine cl (rd_text h) ?_
  rintro v w6 ⟨rfl, h2, hc2⟩
  replace hq := hq.kp (h.kpr hc2 (by decide))
  replace ht := ht.kp (h.kpr hc2 (by decide))
  replace X := X.trans hc2
  clear h
  conv => whnf
  refine st TryzT_ok ht ?_
  conv => whnf
  intro w7 ht7 hc7 hs7
  replace hq := hq.chg hc7 hqt
  have h := h2.oth ht hc7 (by decide) (by decide)
  replace X := X.thenN hc7 fun b (hb : b = t) => .inl (by omega)
  clear ht hc7 h2 hc2
  have ht := ht7
  clear ht7
  conv => whnf
  refine cl (rd_text h) ?_
  rintro v w6 ⟨rfl, h2, hc2⟩
  replace hq := hq.kp (h.kpr hc2 (by decide))
  replace ht := ht.kp (h.kpr hc2 (by decide))
  replace X := X.trans hc2
  clear h
  conv => whnf
  refine st TryzT_ok ht ?_
  conv => whnf
  intro w7 ht7 hc7 hs7
  replace hq := hq.chg hc7 hqt
  have h := h2.oth ht hc7 (by decide) (by decide)
  replace X := X.thenN hc7 fun b (hb : b = t) => .inl (by omega)
  clear ht hc7 h2 hc2
  have ht := ht7
  clear ht7
  conv => whnf
  refine cl (rd_int h) ?_
  rintro v w6 ⟨rfl, h2, hc2⟩
  replace hq := hq.kp (h.kpr hc2 (by decide))
  replace ht := ht.kp (h.kpr hc2 (by decide))
  replace X := X.trans hc2
  clear h
  conv => whnf
  refine st TryzT_ok ht ?_
  conv => whnf
  intro w7 ht7 hc7 hs7
  replace hq := hq.chg hc7 hqt
  have h := h2.oth ht hc7 (by decide) (by decide)
  replace X := X.thenN hc7 fun b (hb : b = t) => .inl (by omega)
  clear ht hc7 h2 hc2
  have ht := ht7
  clear ht7
  conv => whnf
  refine cl (rd_int h) ?_
  rintro v w6 ⟨rfl, h2, hc2⟩
  replace hq := hq.kp (h.kpr hc2 (by decide))
  replace ht := ht.kp (h.kpr hc2 (by decide))
  replace X := X.trans hc2
  clear h
  conv => whnf
  refine st TryzT_ok ht ?_
  conv => whnf
  intro w7 ht7 hc7 hs7
  replace hq := hq.chg hc7 hqt
  have h := h2.oth ht hc7 (by decide) (by decide)
  replace X := X.thenN hc7 fun b (hb : b = t) => .inl (by omega)
  clear ht hc7 h2 hc2
  have ht := ht7
  clear ht7
  conv => whnf
  refine cl (rd_flag h) ?_
  rintro v w6 ⟨rfl, h2, hc2⟩
  replace hq := hq.kp (h.kpr hc2 (by decide))
  replace ht := ht.kp (h.kpr hc2 (by decide))
  replace X := X.trans hc2
  clear h
  conv => whnf
  refine st TryzT_ok ht ?_
  conv => whnf
  intro w7 ht7 hc7 hs7
  replace hq := hq.chg hc7 hqt
  have h := h2.oth ht hc7 (by decide) (by decide)
  replace X := X.thenN hc7 fun b (hb : b = t) => .inl (by omega)
  clear ht hc7 h2 hc2
  have ht := ht7
  clear ht7
  conv => whnf
  refine cl (ms_read h) ?_
  rintro v w6 ⟨rfl, h2, hc2⟩
  replace hq := hq.kp (h.kpr hc2 (by decide))
  replace ht := ht.kp (h.kpr hc2 (by decide))
  replace X := X.trans hc2
  clear h
  conv => whnf
  refine stA TryzT_ok ht ?_
  conv => whnf
  intro w7 ht7 hc7 hs7
  replace hq := hq.chg hc7 hqt
  have h := h2.oth ht hc7 (by decide) (by decide)
  replace X := X.thenN hc7 fun b (hb : b = t) => .inl (by omega)
  conv => whnf
  refine ldA TryzT_ok (ht7.cells (off := 0) (List.prefix_refl _)) ?_
  conv => whnf
  refine stA TryzT_ok hq ?_
  conv => whnf
  intro w13 hq13 hc13 hs13
  conv => whnf
  exact ⟨_, hq13.cells (off := 0) (List.prefix_refl _), rfl, rfl, h.oth hq hc13 (by decide) (by decide), X.thenN hc13 fun b (hb : b = q) => .inl (by omega)⟩

def rdEffG : Nat → Rd → Option (List Eff × Rd)
  | 0, r => some ([], r)
  | n + 1, r => if (rdEff r).2.isNone || !eRight (rdEff r).1 then none else (rdEffG n (rdEff r).2).map fun y => ((rdEff r).1 :: y.1, y.2)
def rdEffs (l : List UInt8) : Option (List Eff) :=
  let x := rdInt (some l)
  if x.2.isNone ∨ x.1 < 0 ∨ 10000 < x.1 then none
  else match rdEffG x.1.toNat x.2 with
    | none => none
    | some y => if rdDone y.2 then some y.1 else none
def rdEffsV (x : Option (List Eff)) : Int := if x.isSome then 0 else 11

/-- effect.Read -/
theorem ef_read {w : World} {v : Value} {l : List UInt8} (hv : Sl w v 5 1 l.length (B l)) (hl : l.length ≤ 274877906944) :
    Does Tryz.prog 66 [v] w fun r w' => ∃ x, r = .tuple #[x, .int .i64 (if (rdEffs l).isSome then 0 else 11)] ∧ EffsR w' x ((rdEffs l).getD []) ∧ Ext w w' := by
  obtain ⟨a0, c0, rfl⟩ := hv.isSlice
  refine does2 TryzT_ok Tryz.func66 Tryz.call66 Tryz.ntmps66 Tryz.results66 ?_
  conv => whnf
  refine cl (rd_new hv hl) ?_
  rintro v w1 ⟨p, rfl, hp, h, X⟩
  conv => whnf
  refine cl (rd_int h) ?_
  rintro v w2 ⟨rfl, h2, hc2⟩
  replace X := X.then hc2 fun b (hb : b = p) => by omega
  clear h
  conv => whnf
  refine cl (rd_failed h2) ?_
  rintro v w3 ⟨rfl, rfl⟩
  have hE : rdEffs l = (if (rdInt (some l)).2.isNone ∨ (rdInt (some l)).1 < 0 ∨ 10000 < (rdInt (some l)).1 then none
    else match rdEffG (rdInt (some l)).1.toNat (rdInt (some l)).2 with
      | none => none
      | some y => if rdDone y.2 then some y.1 else none) := rfl
  generalize rdEffs l = R at hE ⊢
  generalize rdInt (some l) = y at h2 hE ⊢
  obtain ⟨n, r0⟩ := y
  simp only at h2 hE ⊢
  have hnil : ∀ w', EffsR w' (.slice none 0 0) [] := fun w' => Sl.nil _ _ _ _
  cases r0 with
  | none =>
    rw [if_pos (.inl rfl)] at hE
    subst hE
    conv => whnf
    exact ⟨_, rfl, hnil _, X⟩
  | some r0 =>
  conv => whnf
  refine Cmp.dec (fun k1 => ?_) (fun k1 => ?_)
  · rw [if_pos (.inr (.inl k1))] at hE
    subst hE
    conv => whnf
    exact ⟨_, rfl, hnil _, X⟩
  conv => whnf
  refine Cmp.dec (fun k2 => ?_) (fun k2 => ?_)
  · rw [if_pos (.inr (.inr k2))] at hE
    subst hE
    conv => whnf
    exact ⟨_, rfl, hnil _, X⟩
  rw [if_neg (by simp; omega)] at hE
  obtain ⟨n, rfl⟩ : ∃ m : Nat, n = m := ⟨n.toNat, by omega⟩
  rw [Int.toNat_natCast] at hE
  conv => whnf
  refine Cw.loopD TryzT_ok (ι := Nat) (fun i e w' => i ≤ n ∧ ∃ L r a c, L.length = i ∧ (∃ g', e = fr g' [(4, .pointer (some ⟨p, 0, none⟩)), (6, .slice a i c), (22, .int .i64 (n : Int)), (23, .int .i64 (i : Int))]) ∧
      Own w' (.slice a i c) 35 13 i (L.flatMap cEff) ∧ RdR w' p r ∧ rdEffG n (some r0) = (rdEffG (n - i) r).map (fun y => (L ++ y.1, y.2)) ∧ (∀ b, blkOf (.slice a i c) b → w.heap.size ≤ b) ∧ Ext w w')
    (fun i => n - i) 0 ⟨by omega, [], some r0, none, 0, rfl, mkfr _ ⟨rfl, rfl, rfl, rfl, trivial⟩, Own.nil _ _ _, h2, ?_, fun b hb => (blkOf_none _ _ _ hb).elim, X⟩ ?_
  · rw [Nat.sub_zero]; cases rdEffG n (some r0) <;> rfl
  clear h2 X
  rintro i e w4 ⟨hi, L, r, a, c, hL, ⟨g', rfl⟩, ho, h, hG, hB, X⟩
  conv => whnf
  refine Cmp.dec (fun hlt => ?_) (fun hlt => ?_)
  · have hlt : i < n := by omega
    obtain ⟨m, hm⟩ : ∃ m, n - i = m + 1 := ⟨n - i - 1, by omega⟩
    rw [hm] at hG
    have hG1 : rdEffG (m + 1) r = (if (rdEff r).2.isNone || !eRight (rdEff r).1 then none else (rdEffG m (rdEff r).2).map fun y => ((rdEff r).1 :: y.1, y.2)) := rfl
    rw [hG1] at hG
    conv => whnf
    refine cl (ef_read1 h) ?_
    rintro v w5 ⟨rfl, h5, hc5⟩
    replace ho := ho.kp (h.kpr hc5 (by decide))
    replace X := X.then hc5 fun b (hb : b = p) => by omega
    clear h
    conv => whnf
    refine al TryzT_ok ?_
    conv => whnf
    intro t w6a hta hts hx6a _
    conv => whnf
    refine stA TryzT_ok hta ?_
    conv => whnf
    intro w6 ht htc _
    have hx6 : Ext _ w6 := hx6a.then htc (fun y hy => by omega)
    clear hta htc hx6a
    replace X := X.trans hx6
    replace h5 := h5.ext hx6
    replace ho := ho.ext hx6
    generalize rdEff r = y at h5 ht hG ⊢
    obtain ⟨ef, r'⟩ := y
    simp only at h5 ht hG
    conv => whnf
    refine cl (rd_failed h5) ?_
    rintro v w7 ⟨rfl, rfl⟩
    cases r' with
    | none =>
      rw [if_pos (by simp)] at hG
      rw [hG] at hE
      subst hE
      conv => whnf
      exact ⟨_, rfl, hnil _, X⟩
    | some r' =>
    conv => whnf
    refine ldA TryzT_ok (ht.cells (off := 0) (List.prefix_refl _)) ?_
    conv => whnf
    refine cl (ef_right w7 ef) ?_
    rintro v w8 ⟨rfl, hx8⟩
    replace X := X.trans hx8
    replace h5 := h5.ext hx8
    replace ho := ho.ext hx8
    replace ht := ht.ext hx8
    cases hr : eRight ef with
    | false =>
      rw [if_pos (by simp [hr])] at hG
      rw [hG] at hE
      subst hE
      conv => whnf
      exact ⟨_, rfl, hnil _, X⟩
    | true =>
    rw [if_neg (by simp [hr])] at hG
    conv => whnf
    refine ldA TryzT_ok (ht.cells (off := 0) (List.prefix_refl _)) ?_
    conv => whnf
    refine bs (sz := 13) TryzT_ok ?_
    conv => whnf
    refine ⟨rfl, fun b9 w9 ho9 hs9 hx9 => ?_⟩
    replace X := X.trans hx9
    replace h5 := h5.ext hx9
    replace ho := ho.ext hx9
    replace ht := ht.ext hx9
    conv => whnf
    refine ap TryzT_ok ho ho9.sl (by omega) (fun a10 c10 w10 hp => ?_)
    conv => whnf
    refine Ar.i (by omega) ?_
    conv => whnf
    have hz9 := X.size
    refine ⟨i + 1, ⟨by omega, L ++ [ef], some r', a10, c10, by rw [List.length_append, hL]; rfl, mkfr _ ⟨rfl, rfl, rfl, rfl, trivial⟩, ?_, h5.kp (hp.kp ho (by decide)) (hp.kp ho (by decide)), ?_, fun b hb => (hp.at_ b hb).elim (hB b) (fun h => by omega), X.then hp.chg hB⟩, by omega⟩
    · have := hp.own
      rw [List.flatMap_append, List.flatMap_cons, List.flatMap_nil, List.append_nil]
      exact this
    · rw [hG, show n - (i + 1) = m from by omega, Option.map_map]
      cases rdEffG m (some r') with
      | none => rfl
      | some y => simp
  · have : i = n := by omega
    subst this
    rw [Nat.sub_self] at hG
    simp only [rdEffG, Option.map_some, List.append_nil] at hG
    rw [hG] at hE
    simp only at hE
    conv => whnf
    refine cl (rd_done h) ?_
    rintro v w5 ⟨rfl, rfl⟩
    cases hd : rdDone r with
    | false =>
      rw [hd, if_neg (by decide)] at hE
      subst hE
      conv => whnf
      exact ⟨_, rfl, hnil _, X⟩
    | true =>
      rw [hd, if_pos rfl] at hE
      subst hE
      conv => whnf
      refine ⟨_, rfl, ?_, X⟩
      have := ho.sl
      rw [← hL] at this ⊢
      exact this
end Go.Pst

namespace Go.Pst
open Go Go.Proofs

/-- pointer q is a reader of states over reader p -/
structure IR (w : World) (q p : Nat) (r : Rd) (b : Bool) : Prop where
  var : Blk w q 168 [.pointer (some ⟨p, 0, none⟩), .bool b]
  rd : RdR w p r
/-- what is no reader stays -/
def NR (w w' : World) : Prop := ∀ E, E ≠ 204 → E ≠ 168 → Kp E w w'
theorem NR.trans {w w1 w2 : World} (h : NR w w1) (h' : NR w1 w2) : NR w w2 := fun E h1 h2 => (h E h1 h2).trans (h' E h1 h2)
theorem NR.refl (w : World) : NR w w := fun E _ _ => Kp.refl E w
theorem Chg.nr {w w' : World} (h : Ext w w') : NR w w' := fun E _ _ => h.kp E

def rdListG {α : Type} (f : α → Rd → Bool → α × Rd × Bool) : Nat → α × Rd × Bool → α × Rd × Bool
  | 0, x => x
  | n + 1, x => if x.2.1.isNone then x else rdListG f n (f x.1 x.2.1 x.2.2)
def rdList {α : Type} (f : α → Rd → Bool → α × Rd × Bool) (x : α) (r : Rd) (b : Bool) : α × Rd × Bool := rdListG f (rdInt r).1.toNat (x, (rdInt r).2, b || decide ((rdInt r).1 < 0))
theorem rdListG_none {α : Type} {f : α → Rd → Bool → α × Rd × Bool} (n : Nat) {x : α × Rd × Bool} (h : x.2.1 = none) : rdListG f n x = x := by
  cases n with
  | zero => rfl
  | succ n => unfold rdListG; rw [if_pos (by rw [h]; rfl)]

/-- (r *reader) list -/
theorem ir_list {α : Type} {w : World} {q p : Nat} {r : Rd} {b : Bool} {g : FuncId} {cap : List Value} {x0 : α} (J : α → World → Prop) (N : α → Rd → Prop) (f : α → Rd → Bool → α × Rd × Bool) (F : Nat → Prop)
    (h : IR w q p r b) (hJ0 : J x0 w) (hN0 : N x0 (rdInt r).2) (hst : ∀ x w w', J x w → NR w w' → J x w')
    (hf : ∀ x l b w1, w.heap.size ≤ w1.heap.size → J x w1 → N x (some l) → IR w1 q p (some l) b → Does Tryz.prog g cap w1 fun _ w' => J (f x (some l) b).1 w' ∧ IR w' q p (f x (some l) b).2.1 (f x (some l) b).2.2 ∧ Chg (fun c => c = p ∨ c = q ∨ F c) w1 w')
    (hfN : ∀ x l b, N x (some l) → N (f x (some l) b).1 (f x (some l) b).2.1) :
    Does Tryz.prog 123 [.pointer (some ⟨q, 0, none⟩), .func (.func g) #[] ⟨cap⟩] w fun _ w' => J (rdList f x0 r b).1 w' ∧ N (rdList f x0 r b).1 (rdList f x0 r b).2.1 ∧ IR w' q p (rdList f x0 r b).2.1 (rdList f x0 r b).2.2 ∧ Chg (fun c => c = p ∨ c = q ∨ F c) w w' := by
  obtain ⟨hq, hr⟩ := h
  refine does0 TryzT_ok Tryz.func123 Tryz.call123 Tryz.ntmps123 Tryz.results123 ?_
  conv => whnf
  refine ld TryzT_ok hq ?_
  conv => whnf
  refine cl (rd_int hr) ?_
  rintro v w1 ⟨rfl, h1, hc1⟩
  have k1 := fun E hE => hr.kpr hc1 (E := E) hE
  replace hq := hq.kp (k1 _ (by decide))
  replace hJ0 := hst _ _ _ hJ0 fun E h1 h2 => k1 E h1
  have X : Chg (fun c => c = p ∨ c = q ∨ F c) w w1 := hc1.mono fun b _ hb => .inl hb
  conv => whnf
  refine ld TryzT_ok hq ?_
  have hrl : rdList f x0 r b = rdListG f (rdInt r).1.toNat (x0, (rdInt r).2, b || decide ((rdInt r).1 < 0)) := rfl
  rw [hrl]
  have hrn := (rdInt_rng r).2
  generalize rdInt r = y at h1 hN0 hrn ⊢
  obtain ⟨n, r1⟩ := y
  simp only at h1 hN0 hrn ⊢
  by_cases hbtrue : b = true
  · subst hbtrue
    skip
    conv => whnf
    refine st TryzT_ok hq ?_
    conv => whnf
    intro w2 hq2 hc2 hs2
    have h2 := h1.oth hq hc2 (by decide) (by decide)
    have hJ2 := hst _ _ _ hJ0 fun E h1 h2 => hc2.kpb hq h2
    replace X : Chg (fun c => c = p ∨ c = q ∨ F c) w w2 := X.trans (hc2.mono fun b _ hb => .inr (.inl hb))
    clear h1 hJ0 hc2 hq
    generalize hb2 : (true || decide (n < 0)) = b2
    have hq2' : Blk w2 q 168 [.pointer (some ⟨p, 0, none⟩), .bool b2] := by rw [← hb2]; exact hq2
    clear hq2
    conv => whnf
    refine Cw.loopD TryzT_ok (ι := Nat) (fun i e w' => (i : Int) ≤ max n 0 ∧ ∃ x r b, (∃ g', e = fr g' [(0, .pointer (some ⟨q, 0, none⟩)), (1, .func (.func g) #[] ⟨cap⟩), (4, .int .i64 n), (5, .int .i64 (i : Int))]) ∧
        J x w' ∧ N x r ∧ IR w' q p r b ∧ rdListG f n.toNat (x0, r1, b2) = rdListG f (n.toNat - i) (x, r, b) ∧ Chg (fun c => c = p ∨ c = q ∨ F c) w w')
      (fun i => n.toNat - i) 0 ⟨by omega, x0, r1, b2, mkfr _ ⟨rfl, rfl, rfl, rfl, trivial⟩, hJ2, hN0, ⟨hq2', h2⟩, by rw [Nat.sub_zero], X⟩ ?_
    clear h2 X hJ2 hN0 hq2'
    rintro i e w3 ⟨hi, x, r, b, ⟨g', rfl⟩, hJ, hN, ⟨hq, h⟩, hG, X⟩
    conv => whnf
    refine Cmp.dec (fun hlt => ?_) (fun hlt => ?_)
    · obtain ⟨m, hm⟩ : ∃ m, n.toNat - i = m + 1 := ⟨n.toNat - i - 1, by omega⟩
      rw [hm] at hG
      conv => whnf
      refine ld TryzT_ok hq ?_
      conv => whnf
      refine cl (rd_failed h) ?_
      rintro v w4 ⟨rfl, rfl⟩
      cases r with
      | none =>
        conv => whnf
        rw [hG, rdListG_none _ rfl]
        exact ⟨hJ, hN, ⟨hq, h⟩, X⟩
      | some l =>
        conv => whnf
        refine clv (hf x l b _ X.size hJ hN ⟨hq, h⟩) ?_
        rintro v w5 ⟨hJ5, hI5, hx5⟩
        conv => whnf
        refine Ar.i (by omega) ?_
        conv => whnf
        refine ⟨i + 1, ⟨by omega, (f x (some l) b).1, (f x (some l) b).2.1, (f x (some l) b).2.2, mkfr _ ⟨rfl, rfl, rfl, rfl, trivial⟩, hJ5, hfN x l b hN, hI5, ?_, X.trans hx5⟩, by omega⟩
        rw [hG, show n.toNat - (i + 1) = m from by omega]; rfl
    · conv => whnf
      rw [hG, show n.toNat - i = 0 from by omega]
      exact ⟨hJ, hN, ⟨hq, h⟩, X⟩
  by_cases hbfalse : b = false
  · subst hbfalse
    conv => whnf
    refine Cmp.keep ?_
    conv => whnf
    refine st TryzT_ok hq ?_
    conv => whnf
    intro w2 hq2 hc2 hs2
    have h2 := h1.oth hq hc2 (by decide) (by decide)
    have hJ2 := hst _ _ _ hJ0 fun E h1 h2 => hc2.kpb hq h2
    replace X : Chg (fun c => c = p ∨ c = q ∨ F c) w w2 := X.trans (hc2.mono fun b _ hb => .inr (.inl hb))
    clear h1 hJ0 hc2 hq
    generalize hb2 : (false || decide (n < 0)) = b2
    have hq2' : Blk w2 q 168 [.pointer (some ⟨p, 0, none⟩), .bool b2] := by rw [← hb2]; exact hq2
    clear hq2
    conv => whnf
    refine Cw.loopD TryzT_ok (ι := Nat) (fun i e w' => (i : Int) ≤ max n 0 ∧ ∃ x r b, (∃ g', e = fr g' [(0, .pointer (some ⟨q, 0, none⟩)), (1, .func (.func g) #[] ⟨cap⟩), (4, .int .i64 n), (5, .int .i64 (i : Int))]) ∧
        J x w' ∧ N x r ∧ IR w' q p r b ∧ rdListG f n.toNat (x0, r1, b2) = rdListG f (n.toNat - i) (x, r, b) ∧ Chg (fun c => c = p ∨ c = q ∨ F c) w w')
      (fun i => n.toNat - i) 0 ⟨by omega, x0, r1, b2, mkfr _ ⟨rfl, rfl, rfl, rfl, trivial⟩, hJ2, hN0, ⟨hq2', h2⟩, by rw [Nat.sub_zero], X⟩ ?_
    clear h2 X hJ2 hN0 hq2'
    rintro i e w3 ⟨hi, x, r, b, ⟨g', rfl⟩, hJ, hN, ⟨hq, h⟩, hG, X⟩
    conv => whnf
    refine Cmp.dec (fun hlt => ?_) (fun hlt => ?_)
    · obtain ⟨m, hm⟩ : ∃ m, n.toNat - i = m + 1 := ⟨n.toNat - i - 1, by omega⟩
      rw [hm] at hG
      conv => whnf
      refine ld TryzT_ok hq ?_
      conv => whnf
      refine cl (rd_failed h) ?_
      rintro v w4 ⟨rfl, rfl⟩
      cases r with
      | none =>
        conv => whnf
        rw [hG, rdListG_none _ rfl]
        exact ⟨hJ, hN, ⟨hq, h⟩, X⟩
      | some l =>
        conv => whnf
        refine clv (hf x l b _ X.size hJ hN ⟨hq, h⟩) ?_
        rintro v w5 ⟨hJ5, hI5, hx5⟩
        conv => whnf
        refine Ar.i (by omega) ?_
        conv => whnf
        refine ⟨i + 1, ⟨by omega, (f x (some l) b).1, (f x (some l) b).2.1, (f x (some l) b).2.2, mkfr _ ⟨rfl, rfl, rfl, rfl, trivial⟩, hJ5, hfN x l b hN, hI5, ?_, X.trans hx5⟩, by omega⟩
        rw [hG, show n.toNat - (i + 1) = m from by omega]; rfl
    · conv => whnf
      rw [hG, show n.toNat - i = 0 from by omega]
      exact ⟨hJ, hN, ⟨hq, h⟩, X⟩
  cases b
  · exact absurd rfl hbfalse
  · exact absurd rfl hbtrue

theorem rdTake_len {r : Rd} {n : Nat} {a b : List UInt8} (h : rdTake r n = some (a, b)) : ∃ l, r = some l ∧ b.length + n ≤ l.length := by
  unfold rdTake at h
  split at h
  · cases h
  · rename_i l
    split at h
    · cases h
    · simp only [Option.some.injEq, Prod.mk.injEq] at h
      refine ⟨l, rfl, ?_⟩
      rw [← h.2, List.length_drop]; omega
theorem rdNum_len {r : Rd} {k : Nat} {l : List UInt8} (h : (rdNum r k).2 = some l) : ∃ l0, r = some l0 ∧ l.length + k ≤ l0.length := by
  unfold rdNum at h
  split at h
  · cases h
  · rename_i hh; simp only [Option.some.injEq] at h; subst h; exact rdTake_len hh
theorem rdInt_len {r : Rd} {l : List UInt8} (h : (rdInt r).2 = some l) : ∃ l0, r = some l0 ∧ l.length + 8 ≤ l0.length := rdNum_len (r := r) (k := 8) h
theorem rdText_len {r : Rd} {l : List UInt8} (h : (rdText r).2 = some l) : ∃ l0, r = some l0 ∧ l.length + 2 ≤ l0.length := by
  unfold rdText at h
  simp only at h
  split at h
  · cases h
  · rename_i hh
    simp only [Option.some.injEq] at h; subst h
    obtain ⟨l1, h1, h2⟩ := rdTake_len hh
    obtain ⟨l2, h3, h4⟩ := rdNum_len h1
    exact ⟨l2, h3, by omega⟩
theorem rdFlag_len {r : Rd} {l : List UInt8} (h : (rdFlag r).2 = some l) : ∃ l0, r = some l0 ∧ l.length + 1 ≤ l0.length := by
  unfold rdFlag at h
  split at h
  · cases h
  · rename_i hh
    split at h
    · cases h
    · simp only [Option.some.injEq] at h; subst h; exact rdTake_len hh
theorem rdMsg_len {r : Rd} {l : List UInt8} (h : (rdMsg r).2 = some l) : ∃ l0, r = some l0 ∧ l.length + 24 ≤ l0.length := by
  obtain ⟨l1, h, _⟩ := rdText_len (show (rdText (rdText (rdFlag (rdInt (rdInt (rdInt r).2).2).2).2).2).2 = some l from h)
  obtain ⟨l2, h, _⟩ := rdText_len h
  obtain ⟨l3, h, _⟩ := rdFlag_len h
  obtain ⟨l4, h, _⟩ := rdInt_len h
  obtain ⟨l5, h, _⟩ := rdInt_len h
  obtain ⟨l6, h, _⟩ := rdInt_len h
  exact ⟨l6, h, by omega⟩
/-- how many there may be -/
def Nm {α : Type} (n : Nat) (L : List α) (r : Rd) : Prop := match r with
  | some l => 4 * L.length + l.length ≤ n
  | none => 4 * L.length ≤ n + 4
theorem Nm.le {α : Type} {n : Nat} {L : List α} {r : Rd} (h : Nm n L r) : L.length ≤ n / 4 + 1 := by
  cases r with
  | none => have h : 4 * L.length ≤ n + 4 := h; omega
  | some l => have h : 4 * L.length + l.length ≤ n := h; omega
theorem Nm.step {α : Type} {n : Nat} {L : List α} {l : List UInt8} {r : Rd} {x : α} (h : Nm n L (some l)) (hr : ∀ l', r = some l' → l'.length + 4 ≤ l.length) : Nm n (L ++ [x]) r := by
  have h : 4 * L.length + l.length ≤ n := h
  have e : (L ++ [x]).length = L.length + 1 := by simp
  cases r with
  | none => show 4 * (L ++ [x]).length ≤ n + 4; omega
  | some l' => have := hr l' rfl; show 4 * (L ++ [x]).length + l'.length ≤ n; omega
theorem Nm.zero {α : Type} {r : Rd} {n : Nat} (h : ∀ l, r = some l → l.length ≤ n) : Nm n ([] : List α) r := by
  cases r with
  | none => exact Nat.zero_le _
  | some l => show 0 + l.length ≤ n; have := h l rfl; omega

/-- variable v holds a list that grows -/
def Grw {α : Type} (w : World) (v T E sz : Nat) (enc : α → List Value) (B : Nat) (L : List α) : Prop :=
  ∃ a c, Blk w v T [.slice a L.length c] ∧ Own w (.slice a L.length c) E sz L.length (L.flatMap enc) ∧ ∀ b, blkOf (.slice a L.length c) b → B ≤ b

/-- (r *reader) messages: one -/
theorem im_msg1 {w : World} {v u q p B : Nat} {L : List Msg} {r : Rd} {b : Bool} (hv : Grw w v 43 33 6 cMsg B L) (hu : Blk w u 164 [.pointer (some ⟨q, 0, none⟩)]) (h : IR w q p r b) (hL : L.length ≤ 100000000000) (hB : B ≤ w.heap.size) (hvB : B ≤ v) :
    Does Tryz.prog 201 [.pointer (some ⟨v, 0, none⟩), .pointer (some ⟨u, 0, none⟩)] w fun _ w' =>
      (Grw w' v 43 33 6 cMsg B (L ++ [(rdMsg r).1]) ∧ Blk w' u 164 [.pointer (some ⟨q, 0, none⟩)]) ∧ IR w' q p (rdMsg r).2 b ∧ Chg (fun c => c = p ∨ c = q ∨ B ≤ c) w w' := by
  obtain ⟨a, c, hv, ho, hb⟩ := hv
  obtain ⟨hq, h⟩ := h
  refine does0 TryzT_ok Tryz.func201 Tryz.call201 Tryz.ntmps201 Tryz.results201 ?_
  conv => whnf
  refine draw TryzT_ok Tryz_mixed (fun w1 hx1 _ => ?_)
  have X : Chg (fun c => c = p ∨ c = q ∨ B ≤ c) w w1 := hx1.up
  replace hv := hv.ext hx1
  replace ho := ho.ext hx1
  replace hu := hu.ext hx1
  replace hq := hq.ext hx1
  replace h := h.ext hx1
  conv => whnf
  refine ldL TryzT_ok hv ?_
  conv => whnf
  refine ldL TryzT_ok hu ?_
  conv => whnf
  refine ldL TryzT_ok hq ?_
  conv => whnf
  refine cl (ms_read h) ?_
  rintro v w2 ⟨rfl, h2, hc2⟩
  have k2 := fun E hE => h.kpr hc2 (E := E) hE
  replace hv := hv.kp (k2 _ (by decide))
  replace hu := hu.kp (k2 _ (by decide))
  replace hq := hq.kp (k2 _ (by decide))
  replace ho := ho.kp (k2 _ (by decide))
  replace X := X.trans (hc2.mono fun b _ hb => .inl hb)
  conv => whnf
  refine ⟨hv.cell 0, ?_⟩
  conv => whnf
  refine bs (sz := 6) TryzT_ok ?_
  conv => whnf
  refine ⟨rfl, fun b3 w3 ho3 hs3 hx3 => ?_⟩
  replace hv := hv.ext hx3
  replace ho := ho.ext hx3
  replace hu := hu.ext hx3
  replace hq := hq.ext hx3
  replace h2 := h2.ext hx3
  replace X := X.trans hx3.up
  conv => whnf
  refine ⟨hv.cell 0, ?_⟩
  conv => whnf
  refine ap TryzT_ok ho ho3.sl (by omega) (fun a4 c4 w4 hp => ?_)
  replace hv := hv.kp (hp.kp ho (by decide))
  replace hu := hu.kp (hp.kp ho (by decide))
  replace hq := hq.kp (hp.kp ho (by decide))
  replace h2 := h2.kp (hp.kp ho (by decide)) (hp.kp ho (by decide))
  replace X := X.trans (hp.chg.mono fun b' _ h => .inr (.inr (hb b' h)))
  have ho4 := hp.own
  have hz := X.size
  have hz3 : B ≤ w3.heap.size := Nat.le_trans hB (Nat.le_trans hx1.size (Nat.le_trans hc2.size hx3.size))
  have hb4 : ∀ b', blkOf (.slice a4 (L.length + 1) c4) b' → B ≤ b' := fun b' h => (hp.at_ b' h).elim (hb b') (fun h => by omega)
  conv => whnf
  refine st TryzT_ok hv ?_
  conv => whnf
  intro w5 hv5 hc5 hs5
  conv => whnf
  refine ⟨⟨⟨a4, c4, ?_, ?_, ?_⟩, hu.kp (hc5.kpb hv (by decide))⟩, ⟨hq.kp (hc5.kpb hv (by decide)), h2.oth hv hc5 (by decide) (by decide)⟩, X.trans (hc5.mono fun b' _ (h : b' = v) => .inr (.inr (by omega)))⟩
  · rw [List.length_append]; exact hv5
  · rw [List.length_append, List.flatMap_append, List.flatMap_cons, List.flatMap_nil, List.append_nil]; exact ho4.kp (hc5.kpb hv (by decide))
  · rw [List.length_append]; exact hb4

def rdMsgs (r : Rd) (b : Bool) : List Msg × Rd × Bool := rdList (fun L r b => (L ++ [(rdMsg r).1], (rdMsg r).2, b)) [] r b

theorem Grw.kp {α : Type} {w w' : World} {v T E sz B : Nat} {enc : α → List Value} {L : List α} (h : Grw w v T E sz enc B L) (h1 : Kp T w w') (h2 : Kp E w w') : Grw w' v T E sz enc B L := by
  obtain ⟨a, c, h3, h4, h5⟩ := h; exact ⟨a, c, h3.kp h1, h4.kp h2, h5⟩

/-- (r *reader) messages -/
theorem im_msgs {w : World} {q p : Nat} {r : Rd} {b : Bool} (h : IR w q p r b) (hl : (r.getD []).length ≤ 10000000000) :
    Does Tryz.prog 164 [.pointer (some ⟨q, 0, none⟩)] w fun y w' => ∃ a c, y = .slice a (rdMsgs r b).1.length c ∧ Os w' (.slice a (rdMsgs r b).1.length c) 33 6 cMsg (rdMsgs r b).1 ∧ (rdMsgs r b).1.length ≤ 10000000001 ∧ IR w' q p (rdMsgs r b).2.1 (rdMsgs r b).2.2 ∧
      (∀ c', blkOf (.slice a (rdMsgs r b).1.length c) c' → w.heap.size ≤ c') ∧ Chg (fun c => c = p ∨ c = q) w w' := by
  refine does1 TryzT_ok Tryz.func164 Tryz.call164 Tryz.ntmps164 Tryz.results164 ?_
  conv => whnf
  refine bx ?_
  conv => whnf
  intro u w1 hu hs1 hx1 _
  conv => whnf
  refine al TryzT_ok ?_
  conv => whnf
  intro v w2 hv hs2 hx2 _
  obtain ⟨hq, h⟩ := h
  replace hq := hq.ext hx1
  replace h := h.ext hx1
  replace hq := hq.ext hx2
  replace h := h.ext hx2
  replace hu := hu.ext hx2
  have X := hx1.trans hx2
  have hz1 := hx1.size
  conv => whnf
  refine ld TryzT_ok hu ?_
  have hN0 : Nm 10000000000 ([] : List Msg) (rdInt r).2 := Nm.zero fun l hl' => by
    obtain ⟨l0, h1, h2⟩ := rdInt_len hl'
    subst h1
    have : l0.length ≤ 10000000000 := hl
    omega
  have hfN : ∀ (L : List Msg) (l : List UInt8) (b : Bool), Nm 10000000000 L (some l) → Nm 10000000000 (L ++ [(rdMsg (some l)).1]) (rdMsg (some l)).2 := fun L l b hN => hN.step fun l' hl' => by
    obtain ⟨l0, h1, h2⟩ := rdMsg_len hl'
    cases h1; omega
  conv => whnf
  refine cl (ir_list (g := 201) (cap := [.pointer (some ⟨v, 0, none⟩), .pointer (some ⟨u, 0, none⟩)]) (x0 := []) (fun L w' => Grw w' v 43 33 6 cMsg w.heap.size L ∧ Blk w' u 164 [.pointer (some ⟨q, 0, none⟩)]) (Nm 10000000000) (fun L r b => (L ++ [(rdMsg r).1], (rdMsg r).2, b)) (fun c => w.heap.size ≤ c) ⟨hq, h⟩ ⟨⟨none, 0, hv, Own.nil _ _ _, fun b hb => (blkOf_none _ _ _ hb).elim⟩, hu⟩ hN0 (fun L w w' hJ hk => ⟨hJ.1.kp (hk _ (by decide) (by decide)) (hk _ (by decide) (by decide)), hJ.2.kp (hk _ (by decide) (by decide))⟩) (fun L l b w3 hw hJ hN hI => im_msg1 hJ.1 hJ.2 hI (by have := hN.le; omega) (by have := X.size; omega) (by omega)) hfN) ?_
  rintro vv w3 ⟨⟨hG, hu3⟩, hN, hI, hx3⟩
  have e : rdList (fun L r b => (L ++ [(rdMsg r).1], (rdMsg r).2, b)) [] r b = rdMsgs r b := rfl
  rw [e] at hG hN hI
  obtain ⟨a, c, hv3, ho3, hb3⟩ := hG
  have hX : Chg (fun c => c = p ∨ c = q) w w3 := (Chg.up X).thenN hx3 fun b hb => hb.elim (fun h => .inr (.inl h)) fun h => h.elim (fun h => .inr (.inr h)) .inl
  conv => whnf
  refine ld TryzT_ok hv3 ?_
  conv => whnf
  exact ⟨a, c, rfl, ho3, by have := hN.le; omega, hI, hb3, hX⟩

/-- a list that grows in a place of variable v -/
def GrO {α : Type} (w : World) (v T E sz : Nat) (C : Value → List Value) (enc : α → List Value) (B : Nat) (L : List α) : Prop :=
  ∃ a c, Blk w v T (C (.slice a L.length c)) ∧ Own w (.slice a L.length c) E sz L.length (L.flatMap enc) ∧ ∀ b, blkOf (.slice a L.length c) b → B ≤ b
theorem GrO.kp {α : Type} {w w' : World} {v T E sz B : Nat} {C : Value → List Value} {enc : α → List Value} {L : List α} (h : GrO w v T E sz C enc B L) (h1 : Kp T w w') (h2 : Kp E w w') : GrO w' v T E sz C enc B L := by
  obtain ⟨a, c, h3, h4, h5⟩ := h; exact ⟨a, c, h3.kp h1, h4.kp h2, h5⟩
def rdRow (r : Rd) : Row × Rd := (⟨(rdText r).1, (rdText (rdText r).2).1⟩, (rdText (rdText r).2).2)
theorem rdRow_len {r : Rd} {l : List UInt8} (h : (rdRow r).2 = some l) : ∃ l0, r = some l0 ∧ l.length + 4 ≤ l0.length := by
  obtain ⟨l1, h, _⟩ := rdText_len (show (rdText (rdText r).2).2 = some l from h)
  obtain ⟨l2, h, _⟩ := rdText_len h
  exact ⟨l2, h, by omega⟩

/-- (r *reader) object: a row -/
theorem im_row1 {w : World} {v u q p B : Nat} {L : List Row} {o1 o2 o3 m1 m2 : Value} {r : Rd} {b : Bool} (hv : GrO w v 45 120 2 (fun s => [o1, o2, o3, s, m1, m2]) cRow B L)
    (hu : Blk w u 164 [.pointer (some ⟨q, 0, none⟩)]) (h : IR w q p r b) (hL : L.length ≤ 100000000000) (hB : B ≤ w.heap.size) (hvB : B ≤ v) :
    Does Tryz.prog 163 [.pointer (some ⟨u, 0, none⟩), .pointer (some ⟨v, 0, none⟩)] w fun _ w' =>
      (GrO w' v 45 120 2 (fun s => [o1, o2, o3, s, m1, m2]) cRow B (L ++ [(rdRow r).1]) ∧ Blk w' u 164 [.pointer (some ⟨q, 0, none⟩)]) ∧ IR w' q p (rdRow r).2 b ∧ Chg (fun c => c = p ∨ c = q ∨ B ≤ c) w w' := by
  obtain ⟨a, c, hv, ho, hb⟩ := hv
  obtain ⟨hq, h⟩ := h
  refine does0 TryzT_ok Tryz.func163 Tryz.call163 Tryz.ntmps163 Tryz.results163 ?_
  conv => whnf
  refine ld TryzT_ok hu ?_
  conv => whnf
  refine ld TryzT_ok hq ?_
  conv => whnf
  refine cl (rd_text h) ?_
  rintro v w1 ⟨rfl, h1, hc1⟩
  have k1 := fun E hE => h.kpr hc1 (E := E) hE
  replace hv := hv.kp (k1 _ (by decide))
  replace hu := hu.kp (k1 _ (by decide))
  replace hq := hq.kp (k1 _ (by decide))
  replace ho := ho.kp (k1 _ (by decide))
  have X : Chg (fun c => c = p ∨ c = q ∨ B ≤ c) w w1 := hc1.mono fun b _ hb => .inl hb
  conv => whnf
  refine draw TryzT_ok Tryz_mixed (fun w1' hx1 _ => ?_)
  replace X := X.trans hx1.up
  replace hv := hv.ext hx1
  replace ho := ho.ext hx1
  replace hu := hu.ext hx1
  replace hq := hq.ext hx1
  replace h1 := h1.ext hx1
  conv => whnf
  refine ldL TryzT_ok hv ?_
  conv => whnf
  refine ldL TryzT_ok hu ?_
  conv => whnf
  refine ldL TryzT_ok hq ?_
  conv => whnf
  refine cl (rd_text h1) ?_
  rintro v w2 ⟨rfl, h2, hc2⟩
  have k2 := fun E hE => h1.kpr hc2 (E := E) hE
  replace hv := hv.kp (k2 _ (by decide))
  replace hu := hu.kp (k2 _ (by decide))
  replace hq := hq.kp (k2 _ (by decide))
  replace ho := ho.kp (k2 _ (by decide))
  replace X := X.trans (hc2.mono fun b _ hb => .inl hb)
  conv => whnf
  refine ⟨hv.cell 3, ?_⟩
  conv => whnf
  refine bs (sz := 2) TryzT_ok ?_
  conv => whnf
  refine ⟨rfl, fun b3 w3 ho3 hs3 hx3 => ?_⟩
  replace hv := hv.ext hx3
  replace ho := ho.ext hx3
  replace hu := hu.ext hx3
  replace hq := hq.ext hx3
  replace h2 := h2.ext hx3
  replace X := X.trans hx3.up
  conv => whnf
  refine ⟨hv.cell 3, ?_⟩
  have hz3 : B ≤ w3.heap.size := Nat.le_trans hB X.size
  conv => whnf
  refine ap TryzT_ok ho ho3.sl (by omega) (fun a4 c4 w4 hp => ?_)
  replace hv := hv.kp (hp.kp ho (by decide))
  replace hu := hu.kp (hp.kp ho (by decide))
  replace hq := hq.kp (hp.kp ho (by decide))
  replace h2 := h2.kp (hp.kp ho (by decide)) (hp.kp ho (by decide))
  replace X := X.trans (hp.chg.mono fun b' _ h => .inr (.inr (hb b' h)))
  have ho4 := hp.own
  have hb4 : ∀ b', blkOf (.slice a4 (L.length + 1) c4) b' → B ≤ b' := fun b' h => (hp.at_ b' h).elim (hb b') (fun h => by omega)
  conv => whnf
  refine st TryzT_ok hv ?_
  conv => whnf
  intro w5 hv5 hc5 hs5
  conv => whnf
  refine ⟨⟨⟨a4, c4, ?_, ?_, ?_⟩, hu.kp (hc5.kpb hv (by decide))⟩, ⟨hq.kp (hc5.kpb hv (by decide)), h2.oth hv hc5 (by decide) (by decide)⟩, X.trans (hc5.mono fun b' _ (h : b' = v) => .inr (.inr (by omega)))⟩
  · rw [List.length_append]; exact hv5
  · rw [List.length_append, List.flatMap_append, List.flatMap_cons, List.flatMap_nil, List.append_nil]; exact ho4.kp (hc5.kpb hv (by decide))
  · rw [List.length_append]; exact hb4

def rdSz (r : Rd) : Nat := (r.getD []).length
theorem rdSz_of {r r' : Rd} (h : ∀ l, r' = some l → ∃ l0, r = some l0 ∧ l.length ≤ l0.length) : rdSz r' ≤ rdSz r := by
  cases r' with
  | none => exact Nat.zero_le _
  | some l => obtain ⟨l0, rfl, h2⟩ := h l rfl; exact h2
theorem rdInt_sz (r : Rd) : rdSz (rdInt r).2 ≤ rdSz r := rdSz_of fun l h => by obtain ⟨l0, h1, h2⟩ := rdInt_len h; exact ⟨l0, h1, by omega⟩
theorem rdText_sz (r : Rd) : rdSz (rdText r).2 ≤ rdSz r := rdSz_of fun l h => by obtain ⟨l0, h1, h2⟩ := rdText_len h; exact ⟨l0, h1, by omega⟩
theorem rdMsg_sz (r : Rd) : rdSz (rdMsg r).2 ≤ rdSz r := rdSz_of fun l h => by obtain ⟨l0, h1, h2⟩ := rdMsg_len h; exact ⟨l0, h1, by omega⟩
theorem rdRow_sz (r : Rd) : rdSz (rdRow r).2 ≤ rdSz r := rdSz_of fun l h => by obtain ⟨l0, h1, h2⟩ := rdRow_len h; exact ⟨l0, h1, by omega⟩
theorem rdListG_sz {α : Type} {f : α → Rd → Bool → α × Rd × Bool} (h : ∀ x r b, rdSz (f x r b).2.1 ≤ rdSz r) (n : Nat) (x : α × Rd × Bool) : rdSz (rdListG f n x).2.1 ≤ rdSz x.2.1 := by
  induction n generalizing x with
  | zero => exact Nat.le_refl _
  | succ n ih =>
    unfold rdListG
    split
    · exact Nat.le_refl _
    · exact Nat.le_trans (ih _) (h _ _ _)
theorem rdList_sz {α : Type} {f : α → Rd → Bool → α × Rd × Bool} (h : ∀ x r b, rdSz (f x r b).2.1 ≤ rdSz r) (x : α) (r : Rd) (b : Bool) : rdSz (rdList f x r b).2.1 ≤ rdSz r :=
  Nat.le_trans (rdListG_sz h _ _) (rdInt_sz r)
theorem rdMsgs_sz (r : Rd) (b : Bool) : rdSz (rdMsgs r b).2.1 ≤ rdSz r := rdList_sz (fun _ r _ => rdMsg_sz r) _ _ _
/-- what no reader is, stays -/
theorem IR.nr {w w' : World} {q p : Nat} {r : Rd} {b : Bool} (h : IR w q p r b) (hc : Chg (fun c => c = p ∨ c = q) w w') : NR w w' := fun E h1 h2 b' cs hb => by
  obtain ⟨cs', hp⟩ := h.rd.blk
  exact hb.chg hc fun hh => hh.elim (fun e => (hb.ne hp h1) e) fun e => (hb.ne h.var h2) e

def rdRows (r : Rd) (b : Bool) : List Row × Rd × Bool := rdList (fun L r b => (L ++ [(rdRow r).1], (rdRow r).2, b)) [] r b
def rdObj (r : Rd) (b : Bool) : Obj × Rd × Bool :=
  let x1 := rdText r
  let x2 := rdInt x1.2
  let x3 := rdInt x2.2
  let x4 := rdRows x3.2 b
  let x5 := rdMsgs x4.2.1 x4.2.2
  let x6 := rdMsgs x5.2.1 x5.2.2
  (⟨x1.1, x2.1, x3.1, x4.1, x5.1, x6.1⟩, x6.2.1, x6.2.2)
theorem rdRows_sz (r : Rd) (b : Bool) : rdSz (rdRows r b).2.1 ≤ rdSz r := rdList_sz (fun _ r _ => rdRow_sz r) _ _ _
theorem IR.oth {w w' : World} {q p v : Nat} {r : Rd} {b : Bool} {E : Nat} {cs : List Value} (h : IR w q p r b) (hb : Blk w v E cs) (hc : Chg (· = v) w w') (h1 : 204 ≠ E) (h2 : 5 ≠ E) (h3 : 168 ≠ E) : IR w' q p r b :=
  ⟨h.var.kp (hc.kpb hb h3), h.rd.oth hb hc h1 h2⟩
/-- what stands while the rows of an object are read -/
structure JO (v u t q : Nat) (r : Rd) (L : List Row) (w : World) : Prop where
  v : GrO w v 45 120 2 (fun s => [.string (rdText r).1, .int .i64 (rdInt (rdText r).2).1, .int .i64 (rdInt (rdInt (rdText r).2).2).1, s, .slice none 0 0, .slice none 0 0]) cRow v L
  u : Blk w u 164 [.pointer (some ⟨q, 0, none⟩)]
  t : Blk w t 45 [.string ⟨#[]⟩, .int .i64 0, .int .i64 0, .slice none 0 0, .slice none 0 0, .slice none 0 0]
theorem JO.nr {v u t q : Nat} {r : Rd} (L : List Row) (w w' : World) (hJ : JO v u t q r L w) (hk : NR w w') : JO v u t q r L w' :=
  ⟨hJ.v.kp (hk _ (by decide) (by decide)) (hk _ (by decide) (by decide)), hJ.u.kp (hk _ (by decide) (by decide)), hJ.t.kp (hk _ (by decide) (by decide))⟩
/-- (r *reader) object -/
theorem im_object {w : World} {q p : Nat} {r : Rd} {b : Bool} (h : IR w q p r b) (hl : (r.getD []).length ≤ 10000000000) :
    Does Tryz.prog 125 [.pointer (some ⟨q, 0, none⟩)] w fun y w' => ∃ a1 c1 a2 c2 a3 c3, y = .agg ⟨cObj (rdObj r b).1 a1 c1 a2 c2 a3 c3⟩ ∧ ObjP w' (rdObj r b).1 a1 c1 a2 c2 a3 c3 ∧ IR w' q p (rdObj r b).2.1 (rdObj r b).2.2 ∧ Chg (fun c => c = p ∨ c = q) w w' := by
  obtain ⟨hq, h⟩ := h
  refine doesC1 TryzT_ok Tryz.func125 Tryz.call125 Tryz.ntmps125 Tryz.results125 ?_
  conv => whnf
  refine bx ?_
  conv => whnf
  intro u w1 hu hs1 hx1 _
  conv => whnf
  refine al TryzT_ok ?_
  conv => whnf
  intro t w2 ht hs2 hx2 _
  replace hq := hq.ext hx1
  replace h := h.ext hx1
  replace hq := hq.ext hx2
  replace h := h.ext hx2
  replace hu := hu.ext hx2
  have X := hx1.trans hx2
  have hz1 := hx1.size
  replace X : Chg (fun c => c = p ∨ c = q) w w2 := X.up
  conv => whnf
  refine ld TryzT_ok hu ?_
  conv => whnf
  refine ld TryzT_ok hq ?_
  conv => whnf
  refine cl (rd_text h) ?_
  rintro v w3 ⟨rfl, h3, hc3⟩
  have k3 := fun E hE => h.kpr hc3 (E := E) hE
  replace hu := hu.kp (k3 _ (by decide))
  replace hq := hq.kp (k3 _ (by decide))
  replace ht := ht.kp (k3 _ (by decide))
  replace X := X.trans (hc3.mono fun b _ hb => .inl hb)
  have hz3 := hc3.size
  conv => whnf
  refine al TryzT_ok ?_
  conv => whnf
  intro v w4a hva hvs hx4a _
  conv => whnf
  refine stA TryzT_ok hva ?_
  conv => whnf
  intro w4 hv hvc _
  have hx4 : Ext _ w4 := hx4a.then hvc (fun y hy => by omega)
  clear hva hvc hx4a
  replace hu := hu.ext hx4
  replace hq := hq.ext hx4
  replace ht := ht.ext hx4
  replace h3 := h3.ext hx4
  replace X := X.trans hx4.up
  conv => whnf
  refine ld TryzT_ok hu ?_
  conv => whnf
  refine ld TryzT_ok hq ?_
  conv => whnf
  refine cl (rd_int h3) ?_
  rintro vv w5 ⟨rfl, h5, hc5⟩
  have k5 := fun E hE => h3.kpr hc5 (E := E) hE
  replace hu := hu.kp (k5 _ (by decide))
  replace hq := hq.kp (k5 _ (by decide))
  replace ht := ht.kp (k5 _ (by decide))
  replace hv := hv.kp (k5 _ (by decide))
  replace X := X.trans (hc5.mono fun b _ hb => .inl hb)
  have htv : ¬ t = v := by omega
  have hvw : w.heap.size ≤ v := by omega
  conv => whnf
  refine st TryzT_ok hv ?_
  conv => whnf
  intro w6 hv6 hc6 hs6
  replace hu := hu.kp (hc6.kpb hv (by decide))
  replace hq := hq.kp (hc6.kpb hv (by decide))
  replace ht := ht.chg hc6 htv
  replace h5 := h5.oth hv hc6 (by decide) (by decide)
  replace X := X.thenN hc6 fun b (hb : b = v) => .inl (by omega)
  clear hv hc6 k5
  conv => whnf
  refine ld TryzT_ok hu ?_
  conv => whnf
  refine ld TryzT_ok hq ?_
  conv => whnf
  refine cl (rd_int h5) ?_
  rintro vv w7 ⟨rfl, h7, hc7⟩
  have k7 := fun E hE => h5.kpr hc7 (E := E) hE
  replace hu := hu.kp (k7 _ (by decide))
  replace hq := hq.kp (k7 _ (by decide))
  replace ht := ht.kp (k7 _ (by decide))
  replace hv6 := hv6.kp (k7 _ (by decide))
  replace X := X.trans (hc7.mono fun b _ hb => .inl hb)
  conv => whnf
  refine st TryzT_ok hv6 ?_
  conv => whnf
  intro w8 hv8 hc8 hs8
  replace hu := hu.kp (hc8.kpb hv6 (by decide))
  replace hq := hq.kp (hc8.kpb hv6 (by decide))
  replace ht := ht.chg hc8 htv
  replace h7 := h7.oth hv6 hc8 (by decide) (by decide)
  replace X := X.thenN hc8 fun b (hb : b = v) => .inl (by omega)
  clear hv6 hc8 k7
  have hz8 : v ≤ w8.heap.size := Nat.le_of_lt hv8.lt
  have l7 : rdSz (rdInt (rdInt (rdText r).2).2).2 ≤ 10000000000 := Nat.le_trans (rdInt_sz _) (Nat.le_trans (rdInt_sz _) (Nat.le_trans (rdText_sz _) hl))
  conv => whnf
  refine ld TryzT_ok hu ?_
  have hN0 : Nm 10000000000 ([] : List Row) (rdInt (rdInt (rdInt (rdText r).2).2).2).2 := Nm.zero fun l hl' => by
    have := rdInt_sz (rdInt (rdInt (rdText r).2).2).2
    rw [hl'] at this
    exact Nat.le_trans this l7
  have hfN : ∀ (L : List Row) (l : List UInt8) (b : Bool), Nm 10000000000 L (some l) → Nm 10000000000 (L ++ [(rdRow (some l)).1]) (rdRow (some l)).2 := fun L l b hN => hN.step fun l' hl' => by
    obtain ⟨l0, h1, h2⟩ := rdRow_len hl'
    cases h1; omega
  have htlt : t < v := by omega
  have hf : ∀ (L : List Row) (l : List UInt8) (b : Bool) (w9 : World), w8.heap.size ≤ w9.heap.size → JO v u t q r L w9 → Nm 10000000000 L (some l) → IR w9 q p (some l) b →
      Does Tryz.prog 163 [.pointer (some ⟨u, 0, none⟩), .pointer (some ⟨v, 0, none⟩)] w9 fun _ w' => JO v u t q r (L ++ [(rdRow (some l)).1]) w' ∧ IR w' q p (rdRow (some l)).2 b ∧ Chg (fun c => c = p ∨ c = q ∨ v ≤ c) w9 w' := by
    intro L l b w9 hw hJ hN hI
    refine (im_row1 hJ.v hJ.u hI (by have := hN.le; omega) (by omega) (Nat.le_refl _)).mono fun _ w' hh => ⟨⟨hh.1.1, hh.1.2, hJ.t.chg hh.2.2 ?_⟩, hh.2⟩
    obtain ⟨cs', hp⟩ := hI.rd.blk
    have n1 := hJ.t.ne hp (by decide)
    have n2 := hJ.t.ne hI.var (by decide)
    omega
  conv => whnf
  refine cl (ir_list (x0 := []) (JO v u t q r) (Nm 10000000000) (fun L r b => (L ++ [(rdRow r).1], (rdRow r).2, b)) (fun c => v ≤ c) ⟨hq, h7⟩ ⟨⟨none, 0, hv8, Own.nil _ _ _, fun b hb => (blkOf_none _ _ _ hb).elim⟩, hu, ht⟩ hN0 JO.nr hf hfN) ?_
  rintro vv w9 ⟨hJ, hN, hI, hx9⟩
  have e : rdList (fun L r b => (L ++ [(rdRow r).1], (rdRow r).2, b)) [] (rdInt (rdInt (rdText r).2).2).2 b = rdRows (rdInt (rdInt (rdText r).2).2).2 b := rfl
  rw [e] at hJ hN hI
  obtain ⟨⟨a9, c9, hv9, ho9, hb9⟩, hu9, ht9⟩ := hJ
  replace X := X.thenN hx9 fun b hb => hb.elim (fun h => .inr (.inl h)) fun h => h.elim (fun h => .inr (.inr h)) fun h => .inl (by omega)
  clear hx9 hN hf e hfN hN0
  have l9 : rdSz (rdRows (rdInt (rdInt (rdText r).2).2).2 b).2.1 ≤ 10000000000 := Nat.le_trans (rdRows_sz _ _) l7
  have er : rdObj r b = (⟨(rdText r).1, (rdInt (rdText r).2).1, (rdInt (rdInt (rdText r).2).2).1, (rdRows (rdInt (rdInt (rdText r).2).2).2 b).1,
    (rdMsgs (rdRows (rdInt (rdInt (rdText r).2).2).2 b).2.1 (rdRows (rdInt (rdInt (rdText r).2).2).2 b).2.2).1,
    (rdMsgs (rdMsgs (rdRows (rdInt (rdInt (rdText r).2).2).2 b).2.1 (rdRows (rdInt (rdInt (rdText r).2).2).2 b).2.2).2.1 (rdMsgs (rdRows (rdInt (rdInt (rdText r).2).2).2 b).2.1 (rdRows (rdInt (rdInt (rdText r).2).2).2 b).2.2).2.2).1⟩,
    (rdMsgs (rdMsgs (rdRows (rdInt (rdInt (rdText r).2).2).2 b).2.1 (rdRows (rdInt (rdInt (rdText r).2).2).2 b).2.2).2.1 (rdMsgs (rdRows (rdInt (rdInt (rdText r).2).2).2 b).2.1 (rdRows (rdInt (rdInt (rdText r).2).2).2 b).2.2).2.2).2) := rfl
  rw [er]
  generalize rdRows (rdInt (rdInt (rdText r).2).2).2 b = Y9 at hv9 ho9 hb9 hI l9 ⊢
  obtain ⟨R9, r9, b9⟩ := Y9
  simp only at hv9 ho9 hb9 hI l9 ⊢
  conv => whnf
  refine ld TryzT_ok hu9 ?_
  conv => whnf
  refine cl (im_msgs hI l9) ?_
  rintro vv w10 ⟨a10, c10, rfl, ho10, hlen10, hI10, hb10, hx10⟩
  have k10 := hI.nr hx10
  replace hu9 := hu9.kp (k10 _ (by decide) (by decide))
  replace ht9 := ht9.kp (k10 _ (by decide) (by decide))
  replace hv9 := hv9.kp (k10 _ (by decide) (by decide))
  replace ho9 := ho9.kp (k10 _ (by decide) (by decide))
  replace X := X.trans hx10
  have l10 : rdSz (rdMsgs r9 b9).2.1 ≤ 10000000000 := Nat.le_trans (rdMsgs_sz _ _) l9
  generalize rdMsgs r9 b9 = Y10 at ho10 hlen10 hI10 hb10 l10 ⊢
  obtain ⟨M10, r10, b10⟩ := Y10
  simp only at ho10 hlen10 hI10 hb10 l10 ⊢
  conv => whnf
  refine st TryzT_ok hv9 ?_
  conv => whnf
  intro w11 hv11 hc11 hs11
  replace hu9 := hu9.kp (hc11.kpb hv9 (by decide))
  replace ht9 := ht9.chg hc11 htv
  replace ho9 := ho9.kp (hc11.kpb hv9 (by decide))
  replace ho10 := ho10.kp (hc11.kpb hv9 (by decide))
  replace hI10 := hI10.oth hv9 hc11 (by decide) (by decide) (by decide)
  replace X := X.thenN hc11 fun b (hb : b = v) => .inl (by omega)
  clear hv9 hc11
  conv => whnf
  refine ld TryzT_ok hu9 ?_
  conv => whnf
  refine cl (im_msgs hI10 l10) ?_
  rintro vv w12 ⟨a12, c12, rfl, ho12, hlen12, hI12, hb12, hx12⟩
  have k12 := hI10.nr hx12
  replace hu9 := hu9.kp (k12 _ (by decide) (by decide))
  replace ht9 := ht9.kp (k12 _ (by decide) (by decide))
  replace hv11 := hv11.kp (k12 _ (by decide) (by decide))
  replace ho9 := ho9.kp (k12 _ (by decide) (by decide))
  replace ho10 := ho10.kp (k12 _ (by decide) (by decide))
  replace X := X.trans hx12
  generalize rdMsgs r10 b10 = Y12 at ho12 hlen12 hI12 hb12 ⊢
  obtain ⟨M12, r12, b12⟩ := Y12
  simp only at ho12 hlen12 hI12 hb12 ⊢
  conv => whnf
  refine st TryzT_ok hv11 ?_
  conv => whnf
  intro w13 hv13 hc13 hs13
  replace ht9 := ht9.chg hc13 htv
  replace ho9 := ho9.kp (hc13.kpb hv11 (by decide))
  replace ho10 := ho10.kp (hc13.kpb hv11 (by decide))
  replace ho12 := ho12.kp (hc13.kpb hv11 (by decide))
  replace hI12 := hI12.oth hv11 hc13 (by decide) (by decide) (by decide)
  replace X := X.thenN hc13 fun b (hb : b = v) => .inl (by omega)
  clear hv11 hc13
  conv => whnf
  refine ldA TryzT_ok (hv13.cells (off := 0) (List.prefix_refl _)) ?_
  conv => whnf
  refine stA TryzT_ok ht9 ?_
  conv => whnf
  intro w14 ht14 hc14 hs14
  conv => whnf
  have htw : w.heap.size ≤ t := by omega
  exact ⟨_, ht14.cells (off := 0) (List.prefix_refl _), rfl, a9, c9, a10, c10, a12, c12, rfl,
    ⟨(ho9.kp (hc14.kpb ht9 (by decide))).sl, (ho10.kp (hc14.kpb ht9 (by decide))).sl, (ho12.kp (hc14.kpb ht9 (by decide))).sl⟩, hI12.oth ht9 hc14 (by decide) (by decide) (by decide), X.thenN hc14 fun b (hb : b = t) => .inl (by omega)⟩
end Go.Pst

namespace Go.Pst
open Go Go.Proofs

theorem Rep.snoc {α : Type} {sz : Nat} {R : List Value → α → Prop} {cs c : List Value} {l : List α} {x : α} (h : Rep sz R cs l) (hc : c.length = sz) (hl : cs.length = l.length * sz) (hx : R c x) : Rep sz R (cs ++ c) (l ++ [x]) := by
  have := h.ins l.length hc hx
  rw [List.take_of_length_le (by rw [hl]; exact Nat.le_refl _), List.drop_of_length_le (by rw [hl]; exact Nat.le_refl _)] at this
  simpa [lIns] using this

theorem rdListG_len {α : Type} {f : α → Rd → Bool → α × Rd × Bool} (hf : ∀ x r b l, (f x r b).2.1 = some l → ∃ l0, r = some l0 ∧ l.length ≤ l0.length) (n : Nat) (x : α × Rd × Bool) {l : List UInt8} (h : (rdListG f n x).2.1 = some l) : ∃ l0, x.2.1 = some l0 ∧ l.length ≤ l0.length := by
  induction n generalizing x with
  | zero => exact ⟨l, h, Nat.le_refl _⟩
  | succ n ih =>
    unfold rdListG at h
    split at h
    · exact ⟨l, h, Nat.le_refl _⟩
    · obtain ⟨l1, h1, h2⟩ := ih _ h
      obtain ⟨l0, h3, h4⟩ := hf _ _ _ _ h1
      exact ⟨l0, h3, by omega⟩
theorem rdList_len {α : Type} {f : α → Rd → Bool → α × Rd × Bool} (hf : ∀ x r b l, (f x r b).2.1 = some l → ∃ l0, r = some l0 ∧ l.length ≤ l0.length) {x : α} {r : Rd} {b : Bool} {l : List UInt8} (h : (rdList f x r b).2.1 = some l) : ∃ l0, r = some l0 ∧ l.length + 8 ≤ l0.length := by
  obtain ⟨l1, h1, h2⟩ := rdListG_len hf _ _ h
  obtain ⟨l0, h3, h4⟩ := rdInt_len h1
  exact ⟨l0, h3, by omega⟩
theorem rdListG_nm {α : Type} {f : List α → Rd → Bool → List α × Rd × Bool} {N : Nat} (hf : ∀ x l b, Nm N x (some l) → Nm N (f x (some l) b).1 (f x (some l) b).2.1) (n : Nat) (x : List α × Rd × Bool) (h : Nm N x.1 x.2.1) : Nm N (rdListG f n x).1 (rdListG f n x).2.1 := by
  induction n generalizing x with
  | zero => exact h
  | succ n ih =>
    obtain ⟨x, r, b⟩ := x
    cases r with
    | none => rw [rdListG_none _ rfl]; exact h
    | some l => unfold rdListG; rw [if_neg (by simp)]; exact ih _ (hf _ _ _ h)
theorem rdList_nm {α : Type} {f : List α → Rd → Bool → List α × Rd × Bool} {N : Nat} (hf : ∀ x l b, Nm N x (some l) → Nm N (f x (some l) b).1 (f x (some l) b).2.1) {r : Rd} (b : Bool) (h : rdSz r ≤ N) : Nm N (rdList f [] r b).1 (rdList f [] r b).2.1 :=
  rdListG_nm hf _ _ (Nm.zero fun l hl => by have := rdInt_sz r; rw [show (rdInt r).2 = some l from hl] at this; exact Nat.le_trans this h)
theorem rdMsgs_nm {r : Rd} (b : Bool) {N : Nat} (h : rdSz r ≤ N) : Nm N (rdMsgs r b).1 (rdMsgs r b).2.1 :=
  rdList_nm (fun L l b hN => hN.step fun l' hl' => by obtain ⟨l0, h1, h2⟩ := rdMsg_len hl'; cases h1; omega) b h
theorem rdRows_nm {r : Rd} (b : Bool) {N : Nat} (h : rdSz r ≤ N) : Nm N (rdRows r b).1 (rdRows r b).2.1 :=
  rdList_nm (fun L l b hN => hN.step fun l' hl' => by obtain ⟨l0, h1, h2⟩ := rdRow_len hl'; cases h1; omega) b h
theorem rdMsgs_len {r : Rd} {b : Bool} {l : List UInt8} (h : (rdMsgs r b).2.1 = some l) : ∃ l0, r = some l0 ∧ l.length + 8 ≤ l0.length :=
  rdList_len (fun x r b l h => by obtain ⟨l0, h1, h2⟩ := rdMsg_len h; exact ⟨l0, h1, by omega⟩) h
theorem rdRows_len {r : Rd} {b : Bool} {l : List UInt8} (h : (rdRows r b).2.1 = some l) : ∃ l0, r = some l0 ∧ l.length + 8 ≤ l0.length :=
  rdList_len (fun x r b l h => by obtain ⟨l0, h1, h2⟩ := rdRow_len h; exact ⟨l0, h1, by omega⟩) h
theorem rdObj_len {r : Rd} {b : Bool} {l : List UInt8} (h : (rdObj r b).2.1 = some l) : ∃ l0, r = some l0 ∧ l.length + 4 ≤ l0.length := by
  obtain ⟨l1, h, _⟩ := rdMsgs_len (show (rdMsgs (rdMsgs (rdRows (rdInt (rdInt (rdText r).2).2).2 b).2.1 (rdRows (rdInt (rdInt (rdText r).2).2).2 b).2.2).2.1 (rdMsgs (rdRows (rdInt (rdInt (rdText r).2).2).2 b).2.1 (rdRows (rdInt (rdInt (rdText r).2).2).2 b).2.2).2.2).2.1 = some l from h)
  obtain ⟨l2, h, _⟩ := rdMsgs_len h
  obtain ⟨l3, h, _⟩ := rdRows_len h
  obtain ⟨l4, h, _⟩ := rdInt_len h
  obtain ⟨l5, h, _⟩ := rdInt_len h
  obtain ⟨l6, h, _⟩ := rdText_len h
  exact ⟨l6, h, by omega⟩
theorem rdObj_ol {r : Rd} {b : Bool} {N : Nat} (h : rdSz r ≤ N) : OL (N / 4 + 1) (rdObj r b).1 := by
  have h1 : rdSz (rdInt (rdInt (rdText r).2).2).2 ≤ N := Nat.le_trans (rdInt_sz _) (Nat.le_trans (rdInt_sz _) (Nat.le_trans (rdText_sz _) h))
  have h2 := Nat.le_trans (rdRows_sz (rdInt (rdInt (rdText r).2).2).2 b) h1
  have h3 := Nat.le_trans (rdMsgs_sz _ (rdRows (rdInt (rdInt (rdText r).2).2).2 b).2.2) h2
  exact ⟨(rdRows_nm b h1).le, (rdMsgs_nm _ h2).le, (rdMsgs_nm _ h3).le⟩

def rdObjs (r : Rd) (b : Bool) : List Obj × Rd × Bool := rdList (fun L r b => (L ++ [(rdObj r b).1], (rdObj r b).2)) [] r b
theorem rdObjs_nm {r : Rd} (b : Bool) {N : Nat} (h : rdSz r ≤ N) : Nm N (rdObjs r b).1 (rdObjs r b).2.1 :=
  rdList_nm (fun L l b hN => hN.step fun l' hl' => by obtain ⟨l0, h1, h2⟩ := rdObj_len hl'; cases h1; omega) b h

/-- what stands while the objects of a state are read -/
structure JS (nx : Int) (v u t q : Nat) (N : Nat) (L : List Obj) (w : World) : Prop where
  v : ∃ a c cs, Blk w v 40 [.int .i64 nx, .slice a L.length c] ∧ Own w (.slice a L.length c) 45 6 L.length cs ∧ Rep 6 (ObjC w) cs L ∧ ∀ b, blkOf (.slice a L.length c) b → v ≤ b
  u : Blk w u 164 [.pointer (some ⟨q, 0, none⟩)]
  t : Blk w t 40 [.int .i64 0, .slice none 0 0]
  ol : ∀ o ∈ L, OL (N / 4 + 1) o
theorem JS.nr {nx : Int} {v u t q N : Nat} (L : List Obj) (w w' : World) (hJ : JS nx v u t q N L w) (hk : NR w w') : JS nx v u t q N L w' := by
  obtain ⟨a, c, cs, h1, h2, h3, h4⟩ := hJ.v
  exact ⟨⟨a, c, cs, h1.kp (hk _ (by decide) (by decide)), h2.kp (hk _ (by decide) (by decide)), h3.kp (hk _ (by decide) (by decide)) (hk _ (by decide) (by decide)), h4⟩, hJ.u.kp (hk _ (by decide) (by decide)), hJ.t.kp (hk _ (by decide) (by decide)), hJ.ol⟩

/-- image.Read: an object -/
theorem im_read1 {nx : Int} {w : World} {v u t q p N : Nat} {L : List Obj} {l : List UInt8} {b : Bool} (hJ : JS nx v u t q N L w) (h : IR w q p (some l) b) (hN : Nm N L (some l)) (hNN : N ≤ 1000000000) (hv : v ≤ w.heap.size) (htv : t < v) :
    Does Tryz.prog 124 [.pointer (some ⟨v, 0, none⟩), .pointer (some ⟨u, 0, none⟩)] w fun _ w' =>
      JS nx v u t q N (L ++ [(rdObj (some l) b).1]) w' ∧ IR w' q p (rdObj (some l) b).2.1 (rdObj (some l) b).2.2 ∧ Chg (fun c => c = p ∨ c = q ∨ v ≤ c) w w' := by
  have hl : 4 * L.length + l.length ≤ N := hN
  refine does0 TryzT_ok Tryz.func124 Tryz.call124 Tryz.ntmps124 Tryz.results124 ?_
  conv => whnf
  refine draw TryzT_ok Tryz_mixed (fun w1 hx1 _ => ?_)
  replace hJ := JS.nr _ _ _ hJ hx1.nr
  have h1 : IR w1 q p (some l) b := ⟨h.var.ext hx1, h.rd.ext hx1⟩
  obtain ⟨⟨a, c, cs, hvb, ho, hr, hB⟩, hu, ht, hol⟩ := hJ
  have X : Chg (fun c => c = p ∨ c = q ∨ v ≤ c) w w1 := hx1.up
  conv => whnf
  refine ldL TryzT_ok hvb ?_
  conv => whnf
  refine ldL TryzT_ok hu ?_
  conv => whnf
  refine cl (im_object h1 (show l.length ≤ 10000000000 by omega)) ?_
  rintro vv w2 ⟨a1, c1, a2, c2, a3, c3, rfl, hop, hI2, hx2⟩
  have k2 := h1.nr hx2
  replace hvb := hvb.kp (k2 _ (by decide) (by decide))
  replace ho := ho.kp (k2 _ (by decide) (by decide))
  replace hr := hr.kp (k2 _ (by decide) (by decide)) (k2 _ (by decide) (by decide))
  replace hu := hu.kp (k2 _ (by decide) (by decide))
  replace ht := ht.kp (k2 _ (by decide) (by decide))
  replace X := X.trans (hx2.mono fun b _ hb => hb.elim .inl fun h => .inr (.inl h))
  have ool : OL (N / 4 + 1) (rdObj (some l) b).1 := rdObj_ol (show l.length ≤ N by omega)
  generalize rdObj (some l) b = Y at hop hI2 ool ⊢
  obtain ⟨o, r2, b2⟩ := Y
  simp only at hop hI2 ool ⊢
  conv => whnf
  refine ⟨hvb.cell 1, ?_⟩
  conv => whnf
  refine bs (sz := 6) TryzT_ok ?_
  conv => whnf
  refine ⟨rfl, fun b3 w3 ho3 hs3 hx3 => ?_⟩
  replace hop := (ObjC.mk hop).ext hx3
  replace hr := hr.ext hx3
  replace hvb := hvb.ext hx3
  replace ho := ho.ext hx3
  replace hu := hu.ext hx3
  replace ht := ht.ext hx3
  have hI3 : IR w3 q p r2 b2 := ⟨hI2.var.ext hx3, hI2.rd.ext hx3⟩
  replace X := X.trans hx3.up
  have hz3 : v ≤ w3.heap.size := Nat.le_of_lt hvb.lt
  conv => whnf
  refine ⟨hvb.cell 1, ?_⟩
  conv => whnf
  refine ap TryzT_ok ho ho3.sl (by omega) (fun a4 c4 w4 hp => ?_)
  have hcl := ho.1
  replace hvb := hvb.kp (hp.kp ho (by decide))
  replace hu := hu.kp (hp.kp ho (by decide))
  replace ht := ht.kp (hp.kp ho (by decide))
  replace hr := hr.kp (hp.kp ho (by decide)) (hp.kp ho (by decide))
  replace hop := hop.kp (hp.kp ho (by decide)) (hp.kp ho (by decide))
  have hI4 : IR w4 q p r2 b2 := ⟨hI3.var.kp (hp.kp ho (by decide)), hI3.rd.kp (hp.kp ho (by decide)) (hp.kp ho (by decide))⟩
  replace X := X.trans (hp.chg.mono fun b' _ h => .inr (.inr (hB b' h)))
  have ho4 := hp.own
  have hb4 : ∀ b', blkOf (.slice a4 (L.length + 1) c4) b' → v ≤ b' := fun b' h => (hp.at_ b' h).elim (hB b') (fun h => by omega)
  conv => whnf
  refine st TryzT_ok hvb ?_
  conv => whnf
  intro w5 hv5 hc5 hs5
  conv => whnf
  have htv' : ¬ t = v := by omega
  have hl1 : (L ++ [o]).length = L.length + 1 := by simp
  refine ⟨⟨⟨a4, c4, _, ?_, ?_, (hr.snoc rfl hcl hop).kp (hc5.kpb hvb (by decide)) (hc5.kpb hvb (by decide)), ?_⟩, hu.kp (hc5.kpb hvb (by decide)), ht.chg hc5 htv', fun o' ho' => ?_⟩, hI4.oth hvb hc5 (by decide) (by decide) (by decide), X.trans (hc5.mono fun b' _ (h : b' = v) => .inr (.inr (by omega)))⟩
  · rw [hl1]; exact hv5
  · rw [hl1]; exact ho4.kp (hc5.kpb hvb (by decide))
  · rw [hl1]; exact hb4
  · rcases List.mem_append.1 ho' with h | h
    · exact hol o' h
    · rw [List.mem_singleton.1 h]; exact ool

def rdState (l : List UInt8) : Stt × Rd × Bool :=
  let x := rdInt (some l)
  let y := rdObjs x.2 false
  (⟨x.1, y.1⟩, y.2)
def rdImage (l : List UInt8) : Option Stt := let y := rdState l; if rdDone y.2.1 && !y.2.2 && sRight y.1 then some y.1 else none

/-- image.Read -/
theorem im_read {w : World} {v : Value} {l : List UInt8} (hv : Sl w v 5 1 l.length (B l)) (hl : l.length ≤ 100000000) :
    Does Tryz.prog 63 [v] w fun r w' => ∃ c, r = .tuple #[.agg ⟨c⟩, .int .i64 (if (rdImage l).isSome then 0 else 11)] ∧ StC w' c ((rdImage l).getD s0) ∧ Ext w w' := by
  obtain ⟨a0, c0, rfl⟩ := hv.isSlice
  have X := Chg.refl (M := fun _ => False) w
  refine doesC2 TryzT_ok Tryz.func63 Tryz.call63 Tryz.ntmps63 Tryz.results63 ?_
  conv => whnf
  refine al TryzT_ok ?_
  conv => whnf
  intro t w1 ht hs1 hx1 _
  replace X := X.trans hx1
  replace hv := hv.ext hx1
  conv => whnf
  refine cl (rd_new hv (by omega)) ?_
  rintro vv w2 ⟨p, rfl, hp, h, hx2⟩
  replace X := X.trans hx2
  replace ht := ht.ext hx2
  conv => whnf
  refine bx ?_
  conv => whnf
  intro q w3 hq hs3 hx3 _
  replace X := X.trans hx3
  replace ht := ht.ext hx3
  replace h := h.ext hx3
  conv => whnf
  refine al TryzT_ok ?_
  conv => whnf
  intro u w4a hua hus hx4a _
  conv => whnf
  refine st TryzT_ok hua ?_
  conv => whnf
  intro w4 hu hc4 hs4
  have hx4 : Ext w3 w4 := hx4a.then hc4 fun y (hy : y = u) => by omega
  clear hua hc4
  replace X := X.trans hx4
  replace ht := ht.ext hx4
  replace h := h.ext hx4
  replace hq := hq.ext hx4
  conv => whnf
  refine ld TryzT_ok hu ?_
  conv => whnf
  refine ld TryzT_ok hq ?_
  conv => whnf
  refine cl (rd_int h) ?_
  rintro vv w5 ⟨rfl, h5, hc5⟩
  have k5 := fun E hE => h.kpr hc5 (E := E) hE
  replace hu := hu.kp (k5 _ (by decide))
  replace hq := hq.kp (k5 _ (by decide))
  replace ht := ht.kp (k5 _ (by decide))
  have hz1 := hx1.size
  have hz2 := hx2.size
  have hz3 := hx3.size
  have hz4 := hx4.size
  have hz5 := hc5.size
  replace X := X.then hc5 fun b (hb : b = p) => by omega
  have hst : rdState l = (⟨(rdInt (some l)).1, (rdObjs (rdInt (some l)).2 false).1⟩, (rdObjs (rdInt (some l)).2 false).2) := rfl
  have hl5 : rdSz (rdInt (some l)).2 ≤ l.length := rdInt_sz (some l)
  generalize hY : rdInt (some l) = Y at h5 hst hl5
  obtain ⟨nx, r5⟩ := Y
  simp only at h5 hst hl5 ⊢
  conv => whnf
  refine al TryzT_ok ?_
  conv => whnf
  intro v w6a hv6a hv6s hx6a _
  conv => whnf
  refine stA TryzT_ok hv6a ?_
  conv => whnf
  intro w6 hv6 hv6c _
  have hx6 : Ext _ w6 := hx6a.then hv6c (fun y hy => by omega)
  clear hv6a hv6c hx6a
  replace X := X.trans hx6
  replace ht := ht.ext hx6
  replace h5 := h5.ext hx6
  replace hq := hq.ext hx6
  replace hu := hu.ext hx6
  conv => whnf
  refine ld TryzT_ok hu ?_
  have hz6 : w6.heap.size = v + 1 := by omega
  have htv : t < v := by omega
  have hf : ∀ (L : List Obj) (l' : List UInt8) (b : Bool) (w9 : World), w6.heap.size ≤ w9.heap.size → JS nx v u t q l.length L w9 → Nm l.length L (some l') → IR w9 q p (some l') b →
      Does Tryz.prog 124 [.pointer (some ⟨v, 0, none⟩), .pointer (some ⟨u, 0, none⟩)] w9 fun _ w' => JS nx v u t q l.length (L ++ [(rdObj (some l') b).1]) w' ∧ IR w' q p (rdObj (some l') b).2.1 (rdObj (some l') b).2.2 ∧ Chg (fun c => c = p ∨ c = q ∨ v ≤ c) w9 w' := by
    intro L l' b w9 hw hJ hN hI
    exact im_read1 hJ hI hN (by omega) (by omega) htv
  conv => whnf
  refine cl (ir_list (x0 := []) (JS nx v u t q l.length) (Nm l.length) (fun L r b => (L ++ [(rdObj r b).1], (rdObj r b).2)) (fun c => v ≤ c) ⟨hq, h5⟩ ⟨⟨none, 0, [], hv6, Own.nil _ _ _, rfl, fun b hb => (blkOf_none _ _ _ hb).elim⟩, hu, ht, fun _ h => nomatch h⟩ (Nm.zero fun l' hl' => Nat.le_trans (by have := rdInt_sz r5; rw [hl'] at this; exact this) hl5) JS.nr hf (fun L l b hN => hN.step fun l' hl' => (rdObj_len hl').elim fun l0 h => by cases h.1; exact h.2)) ?_
  rintro vv w7 ⟨hJ, hN, hI, hx7⟩
  have e : rdList (fun L r b => (L ++ [(rdObj r b).1], (rdObj r b).2)) [] r5 false = rdObjs r5 false := rfl
  rw [e] at hJ hN hI
  have hnm := rdObjs_nm (r := r5) false hl5
  clear hf e
  replace X := X.then hx7 fun b hb => by omega
  have him : rdImage l = (if rdDone (rdState l).2.1 && !(rdState l).2.2 && sRight (rdState l).1 then some (rdState l).1 else none) := rfl
  rw [hst] at him
  generalize rdImage l = R at him ⊢
  generalize rdObjs r5 false = Y at hJ hN hI hnm him
  obtain ⟨L, r7, b7⟩ := Y
  obtain ⟨⟨a7, c7, cs7, hv7, ho7, hr7, hb7⟩, hu7, ht7, hol7⟩ := hJ
  simp only at hv7 ho7 hr7 hb7 hI hol7 hnm him ⊢
  have hlen := hnm.le
  clear hst hY
  obtain ⟨hq7, hr⟩ := hI
  conv => whnf
  refine ld TryzT_ok hu7 ?_
  conv => whnf
  refine ld TryzT_ok hq7 ?_
  conv => whnf
  refine cl (rd_done hr) ?_
  rintro vv w8 ⟨rfl, rfl⟩
  have hbad : ∀ {R}, R = (none : Option Stt) → True := fun _ => trivial
  clear hbad
  cases hdone : rdDone r7 with
  | false =>
    rw [hdone] at him
    simp only [Bool.false_and, Bool.false_eq_true, if_false] at him
    subst him
    conv => whnf
    refine stA TryzT_ok ht7 ?_
    conv => whnf
    intro w9 ht9 hc9 hs9
    conv => whnf
    exact ⟨_, ht9.cells (off := 0) (List.prefix_refl _), rfl, _, rfl, ⟨none, 0, rfl, [], Sl.nil _ _ _ _, rfl⟩, X.then hc9 fun b (hb : b = t) => by omega⟩
  | true =>
  conv => whnf
  refine ld TryzT_ok hu7 ?_
  conv => whnf
  refine ld TryzT_ok hq7 ?_
  cases b7 with
  | true =>
    simp only [hdone, Bool.not_true, Bool.and_false, Bool.false_and, Bool.false_eq_true, if_false] at him
    subst him
    conv => whnf
    refine stA TryzT_ok ht7 ?_
    conv => whnf
    intro w9 ht9 hc9 hs9
    conv => whnf
    exact ⟨_, ht9.cells (off := 0) (List.prefix_refl _), rfl, _, rfl, ⟨none, 0, rfl, [], Sl.nil _ _ _ _, rfl⟩, X.then hc9 fun b (hb : b = t) => by omega⟩
  | false =>
  conv => whnf
  refine ldA TryzT_ok (hv7.cells (off := 0) (vs := cStt ⟨nx, L⟩ a7 c7) (List.prefix_refl _)) ?_
  have hS : StC w8 (cStt ⟨nx, L⟩ a7 c7) ⟨nx, L⟩ := ⟨a7, c7, rfl, cs7, ho7.sl, hr7⟩
  have hlb : 20 < (⟨nx, L⟩ : Stt).objs.length ∨ LB (l.length / 4 + 1) ⟨nx, L⟩ := by
    rcases Nat.lt_or_ge 20 L.length with h | h
    · exact .inl h
    · exact .inr ⟨h, hol7⟩
  conv => whnf
  refine cl (st_rightL hS (by omega) hlb (show L.length ≤ _ by omega)) ?_
  rintro vv w9 ⟨rfl, hx9⟩
  replace X := X.trans hx9
  replace ht7 := ht7.ext hx9
  replace hv7 := hv7.ext hx9
  cases hright : sRight ⟨nx, L⟩ with
  | false =>
    simp only [hright, Bool.and_false, Bool.false_eq_true, if_false] at him
    subst him
    conv => whnf
    refine stA TryzT_ok ht7 ?_
    conv => whnf
    intro w10 ht10 hc10 hs10
    conv => whnf
    exact ⟨_, ht10.cells (off := 0) (List.prefix_refl _), rfl, _, rfl, ⟨none, 0, rfl, [], Sl.nil _ _ _ _, rfl⟩, X.then hc10 fun b (hb : b = t) => by omega⟩
  | true =>
    simp only [hdone, hright, Bool.not_false, Bool.and_true, if_true] at him
    subst him
    conv => whnf
    refine ldA TryzT_ok (hv7.cells (off := 0) (vs := cStt ⟨nx, L⟩ a7 c7) (List.prefix_refl _)) ?_
    conv => whnf
    refine stA TryzT_ok ht7 ?_
    conv => whnf
    intro w10 ht10 hc10 hs10
    conv => whnf
    obtain ⟨_, _, e1, cs', h1, h2⟩ := hS.ext hx9
    cases e1
    exact ⟨_, ht10.cells (off := 0) (List.prefix_refl _), rfl, _, rfl, ⟨a7, c7, rfl, cs', h1.kp (hc10.kpb ht7 (by decide)), h2.kp (hc10.kpb ht7 (by decide)) (hc10.kpb ht7 (by decide))⟩, X.then hc10 fun b (hb : b = t) => by omega⟩
end Go.Pst

namespace Go.Pst
open Go Go.Proofs

/-- the records, played -/
def kPlay : List (List UInt8) → Stt → Option Stt
  | [], s => some s
  | b :: l, s => match rdEffs b with
    | none => none
    | some es => if (sApply s es).1 = 0 then kPlay l (sApply s es).2 else none
/-- what a disk is read as -/
def kRead (D : DSt) : Option KSt :=
  let x := rootsRd D 0 96
  match (if x.2.2 then rdImage x.2.1 else some s1) with
  | none => none
  | some s =>
    let ep := if x.2.2 then x.1 else 0
    match kPlay (kLog D ep).2 s with
    | none => none
    | some s' => some ⟨D, (kLog D ep).1, (kLog D ep).2.length, s', ep, false⟩

theorem rdObjsG_ol {N : Nat} (n : Nat) (x : List Obj × Rd × Bool) (h : rdSz x.2.1 ≤ N) (ho : ∀ o ∈ x.1, OL (N / 4 + 1) o) : ∀ o ∈ (rdListG (fun L r b => (L ++ [(rdObj r b).1], (rdObj r b).2)) n x).1, OL (N / 4 + 1) o := by
  induction n generalizing x with
  | zero => exact ho
  | succ n ih =>
    unfold rdListG
    split
    · exact ho
    · refine ih _ ?_ fun o hm => ?_
      · exact Nat.le_trans (rdSz_of fun l hl => by obtain ⟨l0, h1, h2⟩ := rdObj_len hl; exact ⟨l0, h1, by omega⟩) h
      · rcases List.mem_append.1 hm with hm | hm
        · exact ho o hm
        · rw [List.mem_singleton.1 hm]; exact rdObj_ol h
theorem rdState_ol (l : List UInt8) : ∀ o ∈ (rdState l).1.objs, OL (l.length / 4 + 1) o :=
  rdObjsG_ol (N := l.length) _ _ (Nat.le_trans (rdInt_sz _) (rdInt_sz (some l))) fun _ h => nomatch h
theorem sRight_all {s : Stt} (h : sRight s = true) : s.objs.length ≤ 20 ∧ 1 ≤ s.next ∧ s.next ≤ 1099511627776 ∧ ∀ o ∈ s.objs, oRight o = true := by
  unfold sRight at h
  simp only [Bool.and_eq_true, decide_eq_true_eq] at h
  exact ⟨h.1.1.2.2, h.1.1.1, h.1.1.2.1, oRises_all h.1.2⟩
theorem oRight_ob {K : Nat} {o : Obj} (h : oRight o = true) (hl : OL K o) : OB K o := by
  refine ⟨hl.rows, hl.msgs, hl.dead, fun m hm => ?_⟩
  unfold oRight at h
  split at h
  · simp only [Bool.and_eq_true, decide_eq_true_eq] at h
    have : o.msgs.length = 0 := h.2.1.1.1
    rw [List.eq_nil_of_length_eq_zero this] at hm; cases hm
  · simp only [Bool.and_eq_true, List.all_eq_true] at h
    have := h.2.1.2 m hm
    unfold mRight at this
    simp only [decide_eq_true_eq] at this
    omega
theorem rdImage_sb {l : List UInt8} {s : Stt} (h : rdImage l = some s) : sRight s = true ∧ SB (l.length / 4 + 1) s := by
  unfold rdImage at h
  simp only at h
  split at h
  · rename_i hh
    simp only [Bool.and_eq_true] at hh
    cases h
    have := sRight_all hh.2
    exact ⟨hh.2, this.1, fun o ho => oRight_ob (this.2.2.2 o ho) (rdState_ol l o ho)⟩
  · cases h

theorem rdEff_len {r : Rd} {l : List UInt8} (h : (rdEff r).2 = some l) : ∃ l0, r = some l0 ∧ l.length + 32 ≤ l0.length := by
  obtain ⟨l1, h, _⟩ := rdMsg_len (show (rdMsg (rdFlag (rdInt (rdInt (rdText (rdText (rdText (rdInt r).2).2).2).2).2).2).2).2 = some l from h)
  obtain ⟨l2, h, _⟩ := rdFlag_len h
  obtain ⟨l3, h, _⟩ := rdInt_len h
  obtain ⟨l4, h, _⟩ := rdInt_len h
  obtain ⟨l5, h, _⟩ := rdText_len h
  obtain ⟨l6, h, _⟩ := rdText_len h
  obtain ⟨l7, h, _⟩ := rdText_len h
  obtain ⟨l8, h, _⟩ := rdInt_len h
  exact ⟨l8, h, by omega⟩
theorem rdEffG_len {n : Nat} {r : Rd} {es : List Eff} {r' : Rd} {l : List UInt8} (h : rdEffG n r = some (es, r')) (hr : r' = some l) : ∃ l0, r = some l0 ∧ l.length + 32 * es.length ≤ l0.length := by
  induction n generalizing r es with
  | zero => simp only [rdEffG, Option.some.injEq, Prod.mk.injEq] at h; obtain ⟨rfl, rfl⟩ := h; exact ⟨l, hr, by simp⟩
  | succ n ih =>
    unfold rdEffG at h
    split at h
    · cases h
    · simp only [Option.map_eq_some_iff] at h
      obtain ⟨⟨es', r''⟩, h1, h2⟩ := h
      simp only [Prod.mk.injEq] at h2
      obtain ⟨rfl, rfl⟩ := h2
      obtain ⟨l1, h3, h4⟩ := ih h1
      obtain ⟨l0, h5, h6⟩ := rdEff_len h3
      exact ⟨l0, h5, by simp only [List.length_cons]; omega⟩
theorem rdEffs_len {b : List UInt8} {es : List Eff} (h : rdEffs b = some es) : 32 * es.length ≤ b.length := by
  unfold rdEffs at h
  simp only at h
  split at h
  · cases h
  · split at h
    · cases h
    · rename_i y hy
      split at h
      · rename_i hd
        cases h
        unfold rdDone at hd
        have hd : y.2 = some [] := by simpa using hd
        obtain ⟨l1, h1, h2⟩ := rdEffG_len (es := y.1) (r' := y.2) hy hd
        obtain ⟨l0, h3, h4⟩ := rdInt_len h1
        cases h3
        simp only [List.length_nil] at h2
        omega
      · cases h

theorem dGet_len (D : DSt) (a n : Int) (h2 : ∀ s ∈ D.now, s.length = 64) : (dGet D a n).length ≤ 64 * (needI n).toNat ∧ ((dGet D a n).length : Int) ≤ max 0 n := by
  unfold dGet
  simp only
  split
  · have hm : needI (max 0 (min n 262144)) ≤ needI n := by unfold needI; split <;> split <;> omega
    have h0 := needI_nn n
    refine ⟨?_, ?_⟩
    · rw [List.length_take]
      refine Nat.le_trans (Nat.min_le_right _ _) ?_
      rw [flat_len fun s hs => h2 s (List.mem_of_mem_drop (List.mem_of_mem_take hs))]
      refine Nat.mul_le_mul_left _ ?_
      rw [List.length_take]
      refine Nat.le_trans (Nat.min_le_left _ _) ?_
      omega
    · rw [List.length_take]
      have := Nat.min_le_left ((max 0 (min n 262144)).toNat) (((D.now.drop a.toNat).take (needI (max 0 (min n 262144))).toNat).flatten).length
      omega
  · exact ⟨Nat.zero_le _, by simp; omega⟩
theorem rootsRd_len {D : DSt} (h2 : ∀ s ∈ D.now, s.length = 64) : (rootsRd D 0 96).2.1.length ≤ 6144 := by
  have h : ∀ wh, (rootRd D 0 (rcut 96) wh).2.1.length ≤ 6144 := fun wh => by
    unfold rootRd
    simp only
    split
    · rename_i ho
      have ho : (rootOf D (0 + wh)).2 ≤ rcut 96 * 64 := by
        unfold rootOk at ho
        simp only [Bool.and_eq_true, decide_eq_true_eq] at ho
        exact ho.1.2.2.2.1
      have e : rcut 96 = 96 := by decide
      rw [e] at ho ⊢
      have := (dGet_len D (rplace 0 96 (rootOf D (0 + wh)).1) (rootOf D (0 + wh)).2 h2).2
      simp only
      omega
    · simp
  unfold rootsRd
  split
  · simp only
    split
    · exact h 1
    · exact h 0
  · simp
/-- what the records hold -/
def rsum (R : List (List UInt8)) : Nat := (R.map List.length).sum
theorem lgAll_sum {D : DSt} (h2 : ∀ s ∈ D.now, s.length = 64) (k : Nat) (L : LSt) (R : List (List UInt8)) (hL : (rsum R : Int) + 64 * R.length ≤ 64 * (L.nx - L.at_)) (hn : L.nx ≤ max L.nx L.en) :
    (rsum (lgAll D k L R).2 : Int) + 64 * (lgAll D k L R).2.length ≤ 64 * ((lgAll D k L R).1.nx - L.at_) ∧ (lgAll D k L R).1.nx ≤ max L.nx L.en := by
  induction k generalizing L R with
  | zero => rw [lgAll_zero]; exact ⟨hL, hn⟩
  | succ k ih =>
    have e0 : lgAll D (k + 1) L R = (if lgFits L 0 then
      match lgNext D L R with
      | some (L', R') => lgAll D k L' R'
      | none => (L, R)
    else (L, R)) := rfl
    rw [e0]
    split
    · split
      · rename_i L' R' hh
        have hok := lgNext_ok hh
        unfold lgNext at hh
        split at hh
        · cases hh
          have hd := (dGet_len D (L.nx + 1) (lgSize (dRead D L.nx)) h2).1
          have hn0 := needI_nn (lgSize (dRead D L.nx))
          have h4 := hok.2.2.1
          clear hok
          generalize dGet D (L.nx + 1) (lgSize (dRead D L.nx)) = b at hd ⊢
          generalize needI (lgSize (dRead D L.nx)) = m at hd hn0 h4 ⊢
          have e1 : rsum (R ++ [b]) = rsum R + b.length := by simp [rsum]
          have e2 : (R ++ [b]).length = R.length + 1 := by simp
          simp only at h4
          have hA : (rsum (R ++ [b]) : Int) + 64 * (R ++ [b]).length ≤ 64 * ((L.nx + 1 + m) - L.at_) := by rw [e1, e2]; omega
          obtain ⟨h5, h6⟩ := ih { L with nx := L.nx + 1 + m } (R ++ [b]) hA (Int.le_max_left _ _)
          refine ⟨h5, Int.le_trans h6 ?_⟩
          show max (L.nx + 1 + m) L.en ≤ max L.nx L.en
          omega
        · cases hh
      · exact ⟨hL, hn⟩
    · exact ⟨hL, hn⟩
theorem kLog_sum {D : DSt} (h2 : ∀ s ∈ D.now, s.length = 64) (ep : Int) : rsum (kLog D ep).2 + 64 * (kLog D ep).2.length ≤ 10240 := by
  obtain ⟨en, hen, e⟩ : ∃ en : Int, en ≤ 354 ∧ kLog D ep = lgAll D (en - 194).toNat ⟨194, en, 194, ep, false⟩ [] := ⟨_, by
    show (if spIs D 194 0 then (194 : Int) + max 0 (min 160 ((D.now.length : Int) - 194)) else 194) ≤ 354
    split <;> omega, rfl⟩
  rw [e]
  have := lgAll_sum h2 (en - 194).toNat ⟨194, en, 194, ep, false⟩ [] (by simp [rsum]) (Int.le_max_left _ _)
  simp only at this
  omega
theorem rsum_le {R : List (List UInt8)} {b : List UInt8} (h : b ∈ R) : b.length ≤ rsum R := by
  induction R with
  | nil => cases h
  | cons c R ih =>
    have e : rsum (c :: R) = c.length + rsum R := by simp [rsum]
    rcases List.mem_cons.1 h with rfl | h
    · omega
    · have := ih h; omega
theorem sApply_sb {K : Nat} {s : Stt} {l : List Eff} (h : SB K s) (ha : (sApply s l).1 = 0) : SB (K + l.length) (sApply s l).2 := by
  rw [(sApply_ok ha).2.2]; exact sDos_sb h l
end Go.Pst

namespace Go.Pst
open Go Go.Proofs

theorem Chg.nrS {w w' : World} {p : Nat} {cs : List Value} (hb : Blk w p 80 cs) (hc : Chg (· = p) w w') {E : Nat} (hE : E ≠ 80) : Kp E w w' := hc.kpb hb hE
theorem LogR.kp {B0 : Nat} {w w' : World} {p d : Nat} {L : LSt} {R : List (List UInt8)} (h : LogR B0 w p d L R) (h1 : Kp 173 w w') (h2 : Kp 36 w w') (h3 : Kp 5 w w') : LogR B0 w' p d L R := by
  obtain ⟨a, c, h4, h5, h6⟩ := h; exact ⟨a, c, Blk.kp h4 h1, h5.kp h2 h3, h6⟩

/-- read -/
theorem kp_read {B0 K : Nat} {w : World} {p d : Nat} {lv : Value} {a : Option Addr} {c : Nat} {D : DSt} {s : Stt} (h : KpB B0 w p d lv a c D s 0 false) (hB0 : B0 ≤ w.heap.size) (hD : DOk K D) (hl1 : lv.oneCell' = true) :
    Does Tryz.prog 36 [.pointer (some ⟨p, 0, none⟩)] w fun v w' => v = .int .i64 (if (kRead D).isSome then 0 else 11) ∧ (∀ S, kRead D = some S → KpR B0 w' p d S) ∧ Chg (· = p) w w' := by
  obtain ⟨hv, hd, ho, hB⟩ := h
  refine does1 TryzT_ok Tryz.func36 Tryz.call36 Tryz.ntmps36 Tryz.results36 ?_
  have hlen := rootsRd_len hD.now
  have hkr : kRead D = (match (if (rootsRd D 0 96).2.2 then rdImage (rootsRd D 0 96).2.1 else some s1) with
    | none => none
    | some s =>
      match kPlay (kLog D (if (rootsRd D 0 96).2.2 then (rootsRd D 0 96).1 else 0)).2 s with
      | none => none
      | some s' => some ⟨D, (kLog D (if (rootsRd D 0 96).2.2 then (rootsRd D 0 96).1 else 0)).1, (kLog D (if (rootsRd D 0 96).2.2 then (rootsRd D 0 96).1 else 0)).2.length, s', (if (rootsRd D 0 96).2.2 then (rootsRd D 0 96).1 else 0), false⟩) := rfl
  -- what stands when the state and the epoch are laid
  refine go_cut (fun e w3 => ∃ st ep, (∃ g, e = fr g [(0, .pointer (some ⟨p, 0, none⟩))]) ∧ (if (rootsRd D 0 96).2.2 then rdImage (rootsRd D 0 96).2.1 else some s1) = some st ∧ (if (rootsRd D 0 96).2.2 then (rootsRd D 0 96).1 else 0) = ep ∧ SB 1537 st ∧
    (∃ a c, KpB B0 w3 p d lv a c D st ep false) ∧ Chg (· = p) w w3) 3 _ _ _ _ ?_ ?_
  · conv => whnf
    refine stA TryzT_ok hv ?_
    conv => whnf
    intro w1 hv1 hc1 hs1
    have kk := fun E' (hE : E' ≠ 80) => hc1.kpb hv (E' := E') hE
    have hd1 := hd.kp (kk _ (by decide)) (kk _ (by decide)) (kk _ (by decide)) (kk _ (by decide))
    conv => whnf
    refine ld TryzT_ok hv1 ?_
    conv => whnf
    refine cl (ro_read hd1 hD.len hD.now 0 96) ?_
    rintro v w2 ⟨x, rfl, hx, hx2⟩
    obtain ⟨ax, cx, rfl, hxs⟩ := hx
    have hv2 := hv1.ext hx2
    have hd2 := hd1.ext hx2
    have X : Chg (· = p) w w2 := hc1.trans hx2.up
    generalize rootsRd D 0 96 = Y at hxs hkr hlen ⊢
    obtain ⟨ep, bs, ok⟩ := Y
    simp only at hxs hkr hlen ⊢
    cases ok with
    | false =>
      conv => whnf
      exact ⟨s1, 0, mkfr _ ⟨rfl, trivial⟩, rfl, rfl, s1_sb.mono (by omega), ⟨none, 0, hv2, hd2, ⟨[], Sl.nil _ _ _ _, rfl⟩, hB⟩, X⟩
    | true =>
      simp only [if_true] at hkr ⊢
      conv => whnf
      refine cl (im_read hxs (by omega)) ?_
      rintro v w3 ⟨c3, rfl, hS3, hx3⟩
      replace X := X.trans hx3.up
      replace hv2 := hv2.ext hx3
      replace hd2 := hd2.ext hx3
      obtain ⟨a3, k3, rfl, ho3⟩ := hS3
      conv => whnf
      refine al TryzT_ok ?_
      conv => whnf
      intro q w4a hqa hqs hx4a _
      conv => whnf
      refine stA TryzT_ok hqa ?_
      conv => whnf
      intro w4 hq hqc _
      have hx4 : Ext _ w4 := hx4a.then hqc (fun y hy => by omega)
      clear hqa hqc hx4a
      replace X := X.trans hx4.up
      replace hv2 := hv2.ext hx4
      replace hd2 := hd2.ext hx4
      replace ho3 := ho3.ext hx4
      cases him : rdImage bs with
      | none =>
        rw [him] at hkr
        simp only at hkr
        conv => whnf
        refine Cmp.yes (by simp [him]) ?_
        conv => whnf
        rw [hkr]
        exact ⟨rfl, (fun S h => by cases h), X⟩
      | some s2 =>
        rw [him] at ho3 hkr
        have hsb := (rdImage_sb him).2
        conv => whnf
        refine Cmp.no (by simp [him]) ?_
        conv => whnf
        refine ldA TryzT_ok (hq.cells (off := 0) (vs := cStt ((rdImage bs).getD s0) a3 k3) (List.prefix_refl _)) ?_
        conv => whnf
        refine stA TryzT_ok hv2 ?_
        conv => whnf
        intro w5 hv5 hc5 hs5
        replace hd2 := hd2.kp (hc5.kpb hv2 (by decide)) (hc5.kpb hv2 (by decide)) (hc5.kpb hv2 (by decide)) (hc5.kpb hv2 (by decide))
        replace ho3 := ho3.kp (hc5.kpb hv2 (by decide)) (hc5.kpb hv2 (by decide)) (hc5.kpb hv2 (by decide))
        replace X := X.trans hc5
        conv => whnf
        refine st TryzT_ok hv5 ?_
        conv => whnf
        intro w6 hv6 hc6 hs6
        replace hd2 := hd2.kp (hc6.kpb hv5 (by decide)) (hc6.kpb hv5 (by decide)) (hc6.kpb hv5 (by decide)) (hc6.kpb hv5 (by decide))
        replace ho3 := ho3.kp (hc6.kpb hv5 (by decide)) (hc6.kpb hv5 (by decide)) (hc6.kpb hv5 (by decide))
        replace X := X.trans hc6
        conv => whnf
        refine ⟨s2, ep, mkfr _ ⟨rfl, trivial⟩, rfl, rfl, hsb.mono (by omega), ⟨a3, k3, ?_, hd2, ho3, hB⟩, X⟩
        rw [him] at hv6; exact hv6
  · rintro e w3 ⟨s2, ep, ⟨g, rfl⟩, hst, hep, hsb, ⟨a3, k3, hb3⟩, X⟩
    rw [hst, hep] at hkr
    simp only at hkr
    have hz := X.size
    conv => whnf
    refine cl (kp_begin hb3 hD.len hD.now hl1) ?_
    rintro v w4 ⟨lp, hb4, hd4, hL4, _, hc4⟩
    replace X := X.trans hc4
    conv => whnf
    refine ld TryzT_ok hb4.var ?_
    have hsum := kLog_sum hD.now ep
    generalize hR : (kLog D ep).2 = R at hkr hL4 hsum
    generalize (kLog D ep).1 = L at hkr hL4
    conv => whnf
    refine cl (lg_records hL4 (fun r hr => by have := rsum_le hr; omega) (by omega)) ?_
    rintro v w5 ⟨a5, c5, rfl, hs5, hx5⟩
    replace X := X.trans hx5.up
    have hb5 : KpB B0 w5 p d (.pointer (some ⟨lp, 0, none⟩)) a3 k3 D s2 ep false := ⟨hb4.var.ext hx5, hb4.disk.ext hx5, hb4.objs.ext hx5, hb4.ge⟩
    have hd5 := hd4.ext hx5
    have hL5 := hL4.ext hx5
    clear hb4 hd4 hL4 hb3
    have hB3 : B0 ≤ w3.heap.size := Nat.le_trans hB0 hz
    conv => whnf
    refine Cw.loopD TryzT_ok (ι := Nat) (fun i e w' => i ≤ R.length ∧ ∃ st a k n, (∃ g', e = fr g' [(0, .pointer (some ⟨p, 0, none⟩)), (47, .slice a5 R.length c5), (48, .int .i64 (R.length : Int)), (49, .int .i64 (i : Int))]) ∧
        KpB B0 w' p d (.pointer (some ⟨lp, 0, none⟩)) a k D st ep false ∧ DiskR (fun b => B0 ≤ b ∧ b < w3.heap.size) w' d D ∧ LogR w3.heap.size w' lp d L R ∧ Secs w' (.slice a5 R.length c5) R ∧ 32 * n ≤ rsum (R.take i) ∧ SB (1537 + n) st ∧ kPlay R s2 = kPlay (R.drop i) st ∧ Chg (· = p) w w')
      (fun i => R.length - i) 0 ⟨by omega, s2, a3, k3, 0, mkfr _ ⟨rfl, rfl, rfl, rfl, trivial⟩, hb5, hd5, hL5, hs5, by simp, hsb, rfl, X⟩ ?_
    clear hb5 hd5 hL5 hs5 X
    rintro i e w6 ⟨hi, st, a, k, n, ⟨g', rfl⟩, hb, hd, hL, hs, hn, hsb, hpl, X⟩
    conv => whnf
    refine Cmp.dec (fun hlt => ?_) (fun hlt => ?_)
    · have hlt : i < R.length := by omega
      obtain ⟨r, hir⟩ := getElem?_lt hlt
      have hdrop : R.drop i = r :: R.drop (i + 1) := drop_cons hir
      have hrl := rsum_le (List.mem_of_getElem? hir)
      have hs0 := hs
      obtain ⟨cs, ho, hr⟩ := hs
      obtain ⟨b2, o2, c2, h4⟩ := ho.sl.some (by omega)
      cases h4
      obtain ⟨⟨sv, hsv, hsl⟩, _⟩ := hr.get hir
      have hc := ho.sl.elem i hlt
      rw [hsv] at hc
      have hc0 := hc 0 sv rfl
      obtain ⟨a7, c7, rfl⟩ := hsl.isSlice
      conv => whnf
      refine ia (sz := 1) TryzT_ok ?_ ?_
      · omega
      conv => whnf
      refine OpR.ldC TryzT_ok hc0 ?_
      conv => whnf
      refine cl (ef_read hsl (by omega)) ?_
      rintro v w7 ⟨x, rfl, hx, hx7⟩
      obtain ⟨ax, kx, rfl⟩ := hx.isSlice
      replace X := X.trans hx7.up
      have hb7 : KpB B0 w7 p d (.pointer (some ⟨lp, 0, none⟩)) a k D st ep false := ⟨hb.var.ext hx7, hb.disk.ext hx7, hb.objs.ext hx7, hb.ge⟩
      replace hd := hd.ext hx7
      replace hL := hL.ext hx7
      have hs := hs0.ext hx7
      clear hb ho hr hc hc0 hsl
      have hP : kPlay (r :: R.drop (i + 1)) st = (match rdEffs r with
        | none => none
        | some es => if (sApply st es).1 = 0 then kPlay (R.drop (i + 1)) (sApply st es).2 else none) := rfl
      rw [hdrop, hP] at hpl
      cases her : rdEffs r with
      | none =>
        rw [her] at hpl
        simp only at hpl
        rw [hpl] at hkr
        simp only at hkr
        conv => whnf
        refine Cmp.yes (by simp [her]) ?_
        conv => whnf
        rw [hkr]
        exact ⟨rfl, (fun S h => by cases h), X⟩
      | some es =>
        have hel := rdEffs_len her
        rw [her] at hpl hx
        simp only [Option.getD_some] at hpl hx
        conv => whnf
        refine Cmp.no (by simp [her]) ?_
        have htk : rsum (R.take (i + 1)) = rsum (R.take i) + r.length := by
          rw [List.take_add_one, hir]; simp [rsum]
        have htl : rsum (R.take (i + 1)) ≤ rsum R := by
          have e := congrArg rsum (List.take_append_drop (i + 1) R)
          have e2 : ∀ A B : List (List UInt8), rsum (A ++ B) = rsum A + rsum B := fun A B => by simp [rsum]
          rw [e2] at e; omega
        conv => whnf
        refine ldA TryzT_ok (hb7.var.cells (off := 2) (vs := cStt st a k) ⟨[.int .i64 ep, .bool false], rfl⟩) ?_
        conv => whnf
        refine cl (st_apply (⟨a, k, rfl, hb7.objs⟩ : StC w7 (cStt st a k) st) (by omega) (.inr hsb) (by have := hsb.objs; omega) hx (by omega)) ?_
        rintro v w8 ⟨c8, rfl, ⟨a8, k8, rfl, ho8⟩, hx8⟩
        have hv8 := hb7.var.ext hx8
        have hdk8 := hb7.disk.ext hx8
        replace X := X.trans hx8.up
        replace hd := hd.ext hx8
        replace hL := hL.ext hx8
        replace hs := hs.ext hx8
        conv => whnf
        refine stA TryzT_ok hv8 ?_
        conv => whnf
        intro w9 hv9 hc9 hs9
        have kk := fun E' (hE : E' ≠ 80) => hc9.kpb hv8 (E' := E') hE
        replace hdk8 := hdk8.kp (kk _ (by decide)) (kk _ (by decide)) (kk _ (by decide)) (kk _ (by decide))
        replace hd := hd.kp (kk _ (by decide)) (kk _ (by decide)) (kk _ (by decide)) (kk _ (by decide))
        replace hL := hL.kp (kk _ (by decide)) (kk _ (by decide)) (kk _ (by decide))
        replace hs := hs.kp (kk _ (by decide)) (kk _ (by decide))
        replace ho8 := ho8.kp (kk _ (by decide)) (kk _ (by decide)) (kk _ (by decide))
        replace X := X.trans hc9
        by_cases hap : (sApply st es).1 = 0
        · rw [if_pos hap] at hpl
          conv => whnf
          refine Cmp.no (by simp [hap]) ?_
          conv => whnf
          refine Ar.i (by omega) ?_
          conv => whnf
          exact ⟨i + 1, ⟨by omega, (sApply st es).2, a8, k8, n + es.length, mkfr _ ⟨rfl, rfl, rfl, rfl, trivial⟩, ⟨hv9, hdk8, ho8, hB⟩, hd, hL, hs, by omega, by rw [← Nat.add_assoc]; exact sApply_sb hsb hap, hpl, X⟩, by omega⟩
        · rw [if_neg hap] at hpl
          rw [hpl] at hkr
          simp only at hkr
          conv => whnf
          refine Cmp.yes (by simp [hap]) ?_
          conv => whnf
          rw [hkr]
          exact ⟨rfl, (fun S h => by cases h), X⟩
    · have : i = R.length := by omega
      subst this
      rw [List.drop_length] at hpl
      have e : kPlay [] st = some st := rfl
      rw [hpl, e] at hkr
      simp only at hkr
      conv => whnf
      rw [hkr]
      refine ⟨rfl, fun S h => ?_, X⟩
      cases h
      exact KpR.of hb hd hL hB3
end Go.Pst

namespace Go.Pst
open Go Go.Proofs

/-- a disk, opened: the error, the disk behind it, the store -/
def kOpen (D : DSt) : Int × DSt × Option KSt :=
  if D.now.length < 354 then (1, D, none)
  else match kRead D with
    | none => (11, D, none)
    | some S =>
      if (sClaims S.st).length = 0 ∧ 0 < S.epoch then (0, D, some S)
      else if (sApply S.st (sClaims S.st)).1 ≠ 0 then (11, D, none)
      else if (kRenew { S with st := (sApply S.st (sClaims S.st)).2 }).1 ≠ 0 then ((kRenew { S with st := (sApply S.st (sClaims S.st)).2 }).1, (kRenew { S with st := (sApply S.st (sClaims S.st)).2 }).2.disk, none)
      else (0, (kRenew { S with st := (sApply S.st (sClaims S.st)).2 }).2.disk, some (kRenew { S with st := (sApply S.st (sClaims S.st)).2 }).2)

/-- o' is o, some of its messages set aside -/
structure OLe (o o' : Obj) : Prop where
  rows : o'.rows.length ≤ o.rows.length
  msgs : o'.msgs.length + o'.dead.length ≤ o.msgs.length + o.dead.length
theorem OLe.refl (o : Obj) : OLe o o := ⟨Nat.le_refl _, Nat.le_refl _⟩
theorem oFree_le (o : Obj) (id : Int) (b : Bool) : OLe o (oFree o id b).1 := by
  unfold oFree
  split
  · exact OLe.refl o
  rename_i hq
  have hq := (qFind_lt (l := o.msgs) (id := id) (by omega)).1
  split
  · exact ⟨Nat.le_refl _, by simp⟩
  split
  · refine ⟨Nat.le_refl _, ?_⟩
    simp only [List.length_eraseIdx, hq, if_true, List.length_append, List.length_cons, List.length_nil]
    omega
  · exact ⟨Nat.le_refl _, by simp⟩
def SLe (s s' : Stt) : Prop := s'.objs.length = s.objs.length ∧ ∀ (i : Nat) (o' : Obj), s'.objs[i]? = some o' → ∃ o : Obj, s.objs[i]? = some o ∧ OLe o o'
theorem SLe.refl (s : Stt) : SLe s s := ⟨rfl, fun i o h => ⟨o, h, OLe.refl o⟩⟩
theorem SLe.trans {s s1 s2 : Stt} (h : SLe s s1) (h' : SLe s1 s2) : SLe s s2 := ⟨h'.1.trans h.1, fun i o2 h2 => by
  obtain ⟨o1, h1, l1⟩ := h'.2 i o2 h2
  obtain ⟨o, h0, l0⟩ := h.2 i o1 h1
  exact ⟨o, h0, Nat.le_trans l1.rows l0.rows, Nat.le_trans l1.msgs l0.msgs⟩⟩
theorem sDo_free {s : Stt} {e : Eff} (he : e.kind = 7) : SLe s (sDo s e).2 := by
  unfold sDo
  split; · exact SLe.refl s
  rw [if_neg (by rw [he]; decide), if_neg (by rw [he]; decide)]
  split; · exact SLe.refl s
  rename_i hf
  have ht : decide (e.kind = 2 ∨ e.kind = 3) = false := by rw [he]; decide
  simp only [ht, Bool.false_eq_true, if_false]
  split; · exact SLe.refl s
  have hq : oQueue s (s.objs.getD (sFind s.objs e.obj).toNat o0) e = (told (oFree (s.objs.getD (sFind s.objs e.obj).toNat o0) e.n e.tried).2 7, (oFree (s.objs.getD (sFind s.objs e.obj).toNat o0) e.n e.tried).1) := by
    unfold oQueue
    rw [if_neg (by rw [he]; decide), if_neg (by rw [he]; decide), if_neg (by rw [he]; decide), if_pos he]
  rw [hq]
  refine ⟨by simp, fun i o' hi => ?_⟩
  simp only [List.getElem?_set] at hi
  split at hi
  · rename_i hij
    split at hi
    · cases hi
      rename_i hlt
      refine ⟨s.objs.getD (sFind s.objs e.obj).toNat o0, ?_, oFree_le _ _ _⟩
      rw [← hij, List.getD_eq_getElem?_getD, List.getElem?_eq_getElem hlt]; rfl
    · cases hi
  · exact ⟨o', hi, OLe.refl o'⟩
theorem sDos_free {s : Stt} {l : List Eff} (h : ∀ e ∈ l, e.kind = 7) : SLe s (sDos s l).2 := by
  induction l generalizing s with
  | nil => exact SLe.refl s
  | cons e l ih =>
    unfold sDos
    split
    · exact (sDo_free (h e List.mem_cons_self)).trans (ih fun x hx => h x (List.mem_cons_of_mem _ hx))
    · exact SLe.refl s
theorem sClaims_kind {s : Stt} : ∀ e ∈ sClaims s, e.kind = 7 := by
  intro e he
  unfold sClaims at he
  simp only [List.mem_flatMap, List.mem_map] at he
  obtain ⟨o, _, m, _, rfl⟩ := he
  rfl
theorem sClaims_sb {K : Nat} {s : Stt} (h : SB K s) (ha : (sApply s (sClaims s)).1 = 0) : SB (2 * K) (sApply s (sClaims s)).2 := by
  have h1 := sApply_sb h ha
  rw [(sApply_ok ha).2.2] at h1 ⊢
  have h2 := sDos_free (s := s) (sClaims_kind (s := s))
  refine ⟨by rw [h2.1]; exact h.objs, fun o' ho' => ?_⟩
  obtain ⟨i, hi⟩ := List.getElem?_of_mem ho'
  obtain ⟨o, ho, hl⟩ := h2.2 i o' hi
  have hb := h.ob o (List.mem_of_getElem? ho)
  have b1 := hb.rows
  have b2 := hb.msgs
  have b3 := hb.dead
  have l1 := hl.rows
  have l2 := hl.msgs
  exact ⟨by omega, by omega, by omega, (h1.ob o' ho').retry⟩
theorem sClaims_len {K : Nat} {s : Stt} (h : SB K s) : (sClaims s).length ≤ 20 * K := by
  have : ∀ l : List Obj, (∀ o ∈ l, OB K o) → (l.flatMap fun o => (o.msgs.filter (·.claimed)).map fun m => (⟨7, o.name, e0, e0, m.id, 0, true, m0⟩ : Eff)).length ≤ l.length * K := by
    intro l
    induction l with
    | nil => simp
    | cons o l ih =>
      intro ho
      have h1 := ih fun x hx => ho x (List.mem_cons_of_mem _ hx)
      have h2 := (ho o List.mem_cons_self).msgs
      have h3 := List.length_filter_le (fun m : Msg => m.claimed) o.msgs
      simp only [List.flatMap_cons, List.length_append, List.length_map, List.length_cons, Nat.add_mul]
      omega
  exact Nat.le_trans (this s.objs h.ob) (Nat.mul_le_mul_right _ h.objs)

/-- what is read back: how long its lists are, and how far its epoch goes -/
theorem kPlay_sb {R : List (List UInt8)} {K : Nat} {s s' : Stt} (h : SB K s) (hp : kPlay R s = some s') : SB (K + rsum R / 32) s' := by
  induction R generalizing K s with
  | nil => cases hp; exact h.mono (by omega)
  | cons b R ih =>
    unfold kPlay at hp
    split at hp
    · cases hp
    · rename_i es he
      split at hp
      · rename_i ha
        have h1 := rdEffs_len he
        have h2 := ih (sApply_sb h ha) hp
        refine h2.mono ?_
        have e : rsum (b :: R) = b.length + rsum R := by simp [rsum]
        rw [e]; omega
      · cases hp
theorem kRead_sb {D : DSt} {S : KSt} (h2 : ∀ s ∈ D.now, s.length = 64) (h : kRead D = some S) : SB 1857 S.st ∧ S.disk = D ∧ S.dead = false := by
  unfold kRead at h
  simp only at h
  split at h
  · cases h
  · rename_i s hs
    split at h
    · cases h
    · rename_i s' hp
      cases h
      refine ⟨?_, rfl, rfl⟩
      have hb : SB 1537 s := by
        split at hs
        · have := rootsRd_len h2
          exact (rdImage_sb hs).2.mono (by omega)
        · cases hs; exact s1_sb.mono (by omega)
      have := kLog_sum h2 (if (rootsRd D 0 96).2.2 then (rootsRd D 0 96).1 else 0)
      exact (kPlay_sb hb hp).mono (by omega)

theorem kRenew_epoch {S : KSt} (h : (kRenew S).1 = 0) : (kRenew S).2.epoch = S.epoch + 1 := by
  unfold kRenew at h ⊢
  simp only at h ⊢
  split at h
  · simp at h
  · rename_i hh; rw [if_neg hh]

/-- Open -/
theorem kp_open {B0 K : Nat} {w : World} {d : Nat} {D : DSt} (hd : DiskR (fun b => B0 ≤ b) w d D) (hB0 : B0 ≤ w.heap.size) (hD : DOk K D) (hK : K ≤ 90000000000)
    (he : ∀ S, kRead D = some S → -9000000000000000000 ≤ S.epoch ∧ S.epoch < 9000000000000000000) :
    Does Tryz.prog 12 [.pointer (some ⟨d, 0, none⟩)] w fun v w' => (match (kOpen D).2.2 with
      | none => v = .tuple #[.pointer none, .int .i64 (kOpen D).1] ∧ DiskR (fun b => B0 ≤ b) w' d (kOpen D).2.1
      | some S => ∃ p, v = .tuple #[.pointer (some ⟨p, 0, none⟩), .int .i64 (kOpen D).1] ∧ KpR B0 w' p d S) ∧ Mod (fun b => B0 ≤ b) SK w w' ∧ ((kOpen D).2.2 = kRead D → Ext w w') := by
  have hko : kOpen D = (if D.now.length < 354 then (1, D, none)
    else match kRead D with
      | none => (11, D, none)
      | some S =>
        if (sClaims S.st).length = 0 ∧ 0 < S.epoch then (0, D, some S)
        else if (sApply S.st (sClaims S.st)).1 ≠ 0 then (11, D, none)
        else if (kRenew { S with st := (sApply S.st (sClaims S.st)).2 }).1 ≠ 0 then ((kRenew { S with st := (sApply S.st (sClaims S.st)).2 }).1, (kRenew { S with st := (sApply S.st (sClaims S.st)).2 }).2.disk, none)
        else (0, (kRenew { S with st := (sApply S.st (sClaims S.st)).2 }).2.disk, some (kRenew { S with st := (sApply S.st (sClaims S.st)).2 }).2)) := rfl
  refine does2 TryzT_ok Tryz.func12 Tryz.call12 Tryz.ntmps12 Tryz.results12 ?_
  conv => whnf
  refine cl (disk_len hd) ?_
  rintro v w1 ⟨rfl, rfl⟩
  conv => whnf
  refine cl (kp_need w1) ?_
  rintro v w2 ⟨rfl, rfl⟩
  conv => whnf
  refine Cmp.dec (fun k1 => ?_) (fun k1 => ?_)
  · rw [if_pos (by omega)] at hko
    rw [hko]
    conv => whnf
    exact ⟨⟨rfl, hd⟩, Mod.refl _ _ _, fun _ => Chg.refl _⟩
  rw [if_neg (by omega)] at hko
  conv => whnf
  refine bx ?_
  conv => whnf
  intro p w3 hp hs3 hx3 _
  have hz3 := hx3.size
  conv => whnf
  refine cl (kp_read (s := ⟨0, []⟩) (lv := .pointer none) (a := none) (c := 0) ⟨hp, hd.ext hx3, ⟨[], Sl.nil _ _ _ _, rfl⟩, by omega⟩ (by omega) hD rfl) ?_
  rintro v w4 ⟨rfl, h4, hc4⟩
  have X4 : Ext w2 w4 := hx3.then hc4 fun b (hb : b = p) => by omega
  cases hkr : kRead D with
  | none =>
    rw [hkr] at hko
    simp only at hko
    rw [hko]
    conv => whnf
    refine Cmp.yes (by simp) ?_
    conv => whnf
    exact ⟨⟨rfl, hd.ext X4⟩, X4.mod, fun _ => X4⟩
  | some S =>
  rw [hkr] at hko
  simp only at hko
  have hsb := kRead_sb hD.now hkr
  have hep := he S hkr
  have h4 := h4 S hkr
  conv => whnf
  refine Cmp.no (by simp) ?_
  have h4' := h4
  obtain ⟨lp, a4, c4, hvv, hdl, ho, hB⟩ := h4'
  conv => whnf
  refine ldA TryzT_ok (hvv.cells (off := 2) (vs := cStt S.st a4 c4) ⟨[.int .i64 S.epoch, .bool S.dead], rfl⟩) ?_
  conv => whnf
  refine cl (st_claims (⟨a4, c4, rfl, ho⟩ : StC w4 (cStt S.st a4 c4) S.st) (by omega) hsb.1) ?_
  rintro v w5 ⟨h5, hx5⟩
  obtain ⟨a5, c5, rfl⟩ := h5.isSlice
  have hcl := sClaims_len hsb.1
  have X5 := X4.trans hx5
  have hvv5 := hvv.ext hx5
  have hobj := hsb.1.objs
  -- the renewal
  by_cases hk : (sClaims S.st).length = 0 ∧ 0 < S.epoch
  · rw [if_pos hk] at hko
    rw [hko]
    conv => whnf
    refine Cmp.y (by omega) ?_
    conv => whnf
    refine ld TryzT_ok hvv5 ?_
    conv => whnf
    refine Cmp.y (by omega) ?_
    conv => whnf
    exact ⟨⟨p, rfl, h4.ext hx5⟩, X5.mod, fun _ => X5⟩
  rw [if_neg hk] at hko
  have hD7 : DOk K S.disk := by rw [hsb.2.1]; exact hD
  rcases Classical.em ((sClaims S.st).length = 0) with hlen | hlen
  · skip
    conv => whnf
    refine Cmp.y (by omega) ?_
    conv => whnf
    refine ld TryzT_ok hvv5 ?_
    conv => whnf
    refine Cmp.n (by omega) ?_
    conv => whnf
    refine ldA TryzT_ok (hvv5.cells (off := 2) (vs := cStt S.st a4 c4) ⟨[.int .i64 S.epoch, .bool S.dead], rfl⟩) ?_
    conv => whnf
    refine cl (st_apply (⟨a4, c4, rfl, ho.ext hx5⟩ : StC w5 (cStt S.st a4 c4) S.st) (by omega) (.inr hsb.1) (by omega) h5 (by omega)) ?_
    rintro v w6 ⟨c6, rfl, ⟨a6, k6, rfl, ho6⟩, hx6⟩
    have hvv6 := hvv5.ext hx6
    have hdl6 := (hdl.ext hx5).ext hx6
    have X6 := X5.trans hx6
    conv => whnf
    refine stA TryzT_ok hvv6 ?_
    conv => whnf
    intro w7 hv7 hc7 hs7
    have kk := fun E' (hE : E' ≠ 80) => hc7.kpb hvv6 (E' := E') hE
    have X7 : Ext w2 w7 := X6.then hc7 fun b (hb : b = p) => by omega
    have h7 : KpR B0 w7 p d { S with st := (sApply S.st (sClaims S.st)).2 } := by
      obtain ⟨al, kl, cs, h1, h2, h3, h4⟩ := hdl6
      exact ⟨lp, a6, k6, hv7, ⟨al, kl, cs, Blk.kp h1 (kk _ (by decide)), h2.kp (kk _ (by decide)), h3.kp (kk _ (by decide)) (kk _ (by decide)) (kk _ (by decide)) (kk _ (by decide)), h4⟩, ho6.kp (kk _ (by decide)) (kk _ (by decide)) (kk _ (by decide)), hB⟩
    by_cases hap : (sApply S.st (sClaims S.st)).1 ≠ 0
    · rw [if_pos hap] at hko
      rw [hko]
      conv => whnf
      refine Cmp.yes (by simpa using hap) ?_
      conv => whnf
      refine ⟨⟨rfl, ?_⟩, X7.mod, fun _ => X7⟩
      exact hd.ext X7
    rw [if_neg hap] at hko
    have hap : (sApply S.st (sClaims S.st)).1 = 0 := by omega
    conv => whnf
    refine Cmp.no (by simpa using hap) ?_
    have hz7 := X7.size
    have hsb7 := sClaims_sb hsb.1 hap
    conv => whnf
    refine cl (kp_renew h7 (Nat.le_trans hB0 hz7) hD7 hK (show 2 * 1857 ≤ 4000 from by decide) (.inr hsb7) (Nat.le_trans hsb7.objs (by decide)) hep) ?_
    rintro v w8 ⟨rfl, h8, hm8⟩
    have M8 : Mod (fun b => B0 ≤ b) SK w2 w8 := X7.mod.trans hm8
    generalize hY : kRenew { S with st := (sApply S.st (sClaims S.st)).2 } = Y at h8 hko ⊢
    obtain ⟨er, S8⟩ := Y
    simp only at h8 hko ⊢
    by_cases her : er ≠ 0
    · rw [if_pos her] at hko
      rw [hko]
      conv => whnf
      refine Cmp.yes (by simpa using her) ?_
      conv => whnf
      obtain ⟨_, _, _, _, ⟨_, _, _, _, _, hdd, _⟩, _⟩ := h8
      exact ⟨⟨rfl, hdd.mono fun b _ h => h.1⟩, M8, fun h => by cases h⟩
    · rw [if_neg her] at hko
      rw [hko]
      have her : er = 0 := by omega
      conv => whnf
      refine Cmp.no (by simpa using her) ?_
      conv => whnf
      refine ⟨⟨p, rfl, h8⟩, M8, fun h => ?_⟩
      cases h
      have e := kRenew_epoch (S := { S with st := (sApply S.st (sClaims S.st)).2 }) (by rw [hY]; exact her)
      rw [hY] at e
      simp only at e
      omega
  · skip
    conv => whnf
    refine Cmp.n (by omega) ?_
    conv => whnf
    refine ldA TryzT_ok (hvv5.cells (off := 2) (vs := cStt S.st a4 c4) ⟨[.int .i64 S.epoch, .bool S.dead], rfl⟩) ?_
    conv => whnf
    refine cl (st_apply (⟨a4, c4, rfl, ho.ext hx5⟩ : StC w5 (cStt S.st a4 c4) S.st) (by omega) (.inr hsb.1) (by omega) h5 (by omega)) ?_
    rintro v w6 ⟨c6, rfl, ⟨a6, k6, rfl, ho6⟩, hx6⟩
    have hvv6 := hvv5.ext hx6
    have hdl6 := (hdl.ext hx5).ext hx6
    have X6 := X5.trans hx6
    conv => whnf
    refine stA TryzT_ok hvv6 ?_
    conv => whnf
    intro w7 hv7 hc7 hs7
    have kk := fun E' (hE : E' ≠ 80) => hc7.kpb hvv6 (E' := E') hE
    have X7 : Ext w2 w7 := X6.then hc7 fun b (hb : b = p) => by omega
    have h7 : KpR B0 w7 p d { S with st := (sApply S.st (sClaims S.st)).2 } := by
      obtain ⟨al, kl, cs, h1, h2, h3, h4⟩ := hdl6
      exact ⟨lp, a6, k6, hv7, ⟨al, kl, cs, Blk.kp h1 (kk _ (by decide)), h2.kp (kk _ (by decide)), h3.kp (kk _ (by decide)) (kk _ (by decide)) (kk _ (by decide)) (kk _ (by decide)), h4⟩, ho6.kp (kk _ (by decide)) (kk _ (by decide)) (kk _ (by decide)), hB⟩
    by_cases hap : (sApply S.st (sClaims S.st)).1 ≠ 0
    · rw [if_pos hap] at hko
      rw [hko]
      conv => whnf
      refine Cmp.yes (by simpa using hap) ?_
      conv => whnf
      refine ⟨⟨rfl, ?_⟩, X7.mod, fun _ => X7⟩
      exact hd.ext X7
    rw [if_neg hap] at hko
    have hap : (sApply S.st (sClaims S.st)).1 = 0 := by omega
    conv => whnf
    refine Cmp.no (by simpa using hap) ?_
    have hz7 := X7.size
    have hsb7 := sClaims_sb hsb.1 hap
    conv => whnf
    refine cl (kp_renew h7 (Nat.le_trans hB0 hz7) hD7 hK (show 2 * 1857 ≤ 4000 from by decide) (.inr hsb7) (Nat.le_trans hsb7.objs (by decide)) hep) ?_
    rintro v w8 ⟨rfl, h8, hm8⟩
    have M8 : Mod (fun b => B0 ≤ b) SK w2 w8 := X7.mod.trans hm8
    generalize hY : kRenew { S with st := (sApply S.st (sClaims S.st)).2 } = Y at h8 hko ⊢
    obtain ⟨er, S8⟩ := Y
    simp only at h8 hko ⊢
    by_cases her : er ≠ 0
    · rw [if_pos her] at hko
      rw [hko]
      conv => whnf
      refine Cmp.yes (by simpa using her) ?_
      conv => whnf
      obtain ⟨_, _, _, _, ⟨_, _, _, _, _, hdd, _⟩, _⟩ := h8
      exact ⟨⟨rfl, hdd.mono fun b _ h => h.1⟩, M8, fun h => by cases h⟩
    · rw [if_neg her] at hko
      rw [hko]
      have her : er = 0 := by omega
      conv => whnf
      refine Cmp.no (by simpa using her) ?_
      conv => whnf
      refine ⟨⟨p, rfl, h8⟩, M8, fun h => ?_⟩
      cases h
      have e := kRenew_epoch (S := { S with st := (sApply S.st (sClaims S.st)).2 }) (by rw [hY]; exact her)
      rw [hY] at e
      simp only at e
      omega
end Go.Pst

namespace Go.Pst
open Go Go.Proofs

def I64 (n : Int) : Prop := -9223372036854775808 ≤ n ∧ n < 9223372036854775808
structure MI (m : Msg) : Prop where
  id : I64 m.id
  pri : I64 m.pri
  retry : I64 m.retry
  corr : m.corr.size ≤ 65535
  body : m.body.size ≤ 65535
structure EI (e : Eff) : Prop where
  kind : I64 e.kind
  obj : e.obj.size ≤ 65535
  key : e.key.size ≤ 65535
  val : e.val.size ≤ 65535
  n : I64 e.n
  limit : I64 e.limit
  msg : MI e.msg
theorem mRight_mi {m : Msg} (h : mRight m = true) : MI m := by
  unfold mRight at h
  simp only [decide_eq_true_eq] at h
  refine ⟨?_, ?_, ?_, ?_, ?_⟩ <;> first | (unfold I64; omega) | omega
theorem m0_mi : MI m0 := by
  refine ⟨?_, ?_, ?_, ?_, ?_⟩ <;> first | (unfold I64; decide) | decide
theorem e0_sz : e0.size = 0 := rfl
theorem eRight_ei {e : Eff} (h : eRight e = true) : EI e := by
  unfold eRight at h
  simp only [Bool.and_eq_true, decide_eq_true_eq] at h
  obtain ⟨hn, h⟩ := h
  have h0 := e0_sz
  have hm := m0_mi
  have z : I64 0 := by unfold I64; decide
  unfold eNamed at hn
  by_cases k1 : e.kind = 1
  · rw [if_pos k1] at hn h
    unfold oRight0 nRight at h
    simp only [Bool.and_eq_true, decide_eq_true_eq] at h
    have hl : I64 e.n ∧ I64 e.limit := by
      obtain ⟨_, h⟩ := h
      split at h
      · simp only [decide_eq_true_eq] at h; unfold I64; omega
      · split at h
        · simp only [decide_eq_true_eq] at h; unfold I64; omega
        · cases h
    have e1 := congrArg Eff.key hn
    have e2 := congrArg Eff.val hn
    have e3 := congrArg Eff.msg hn
    simp only at e1 e2 e3
    exact ⟨by unfold I64; omega, by omega, by rw [e1]; omega, by rw [e2]; omega, hl.1, hl.2, by rw [e3]; exact hm⟩
  rw [if_neg k1] at hn h
  by_cases k2 : e.kind = 2
  · rw [if_pos k2] at hn h
    unfold nRight rRight kRight at h
    simp only [Bool.and_eq_true, decide_eq_true_eq] at h
    have e1 := congrArg Eff.n hn
    have e2 := congrArg Eff.limit hn
    have e3 := congrArg Eff.msg hn
    simp only at e1 e2 e3
    exact ⟨by unfold I64; omega, by omega, by omega, by omega, by rw [e1]; exact z, by rw [e2]; exact z, by rw [e3]; exact hm⟩
  rw [if_neg k2] at hn h
  by_cases k3 : e.kind = 3
  · rw [if_pos k3] at hn h
    unfold nRight kRight at h
    simp only [Bool.and_eq_true, decide_eq_true_eq] at h
    have e0' := congrArg Eff.val hn
    have e1 := congrArg Eff.n hn
    have e2 := congrArg Eff.limit hn
    have e3 := congrArg Eff.msg hn
    simp only at e0' e1 e2 e3
    exact ⟨by unfold I64; omega, by omega, by omega, by rw [e0']; omega, by rw [e1]; exact z, by rw [e2]; exact z, by rw [e3]; exact hm⟩
  rw [if_neg k3] at hn h
  by_cases k4 : e.kind = 4
  · rw [if_pos k4] at hn h
    unfold nRight at h
    simp only [Bool.and_eq_true, decide_eq_true_eq] at h
    have e0' := congrArg Eff.key hn
    have e0'' := congrArg Eff.val hn
    have e1 := congrArg Eff.n hn
    have e2 := congrArg Eff.limit hn
    simp only at e0' e0'' e1 e2
    exact ⟨by unfold I64; omega, by omega, by rw [e0']; omega, by rw [e0'']; omega, by rw [e1]; exact z, by rw [e2]; exact z, mRight_mi h.2⟩
  rw [if_neg k4] at hn h
  have e0' := congrArg Eff.key hn
  have e0'' := congrArg Eff.val hn
  have e2 := congrArg Eff.limit hn
  have e3 := congrArg Eff.msg hn
  have hk : e.key = e0 := by rw [e0']; split; · rfl
                             split; · rfl
                             split <;> rfl
  have hv : e.val = e0 := by rw [e0'']; split; · rfl
                             split; · rfl
                             split <;> rfl
  have hl : e.limit = 0 := by rw [e2]; split; · rfl
                              split; · rfl
                              split <;> rfl
  have hmm : e.msg = m0 := by rw [e3]; split; · rfl
                              split; · rfl
                              split <;> rfl
  have fin : I64 e.kind → I64 e.n → e.obj.size ≤ 65535 → EI e := fun a b c => ⟨a, c, by rw [hk]; omega, by rw [hv]; omega, b, by rw [hl]; exact z, by rw [hmm]; exact hm⟩
  by_cases k5 : e.kind = 5 ∨ e.kind = 6 ∨ e.kind = 7
  · rw [if_pos k5] at h
    unfold nRight idRight at h
    simp only [Bool.and_eq_true, decide_eq_true_eq] at h
    exact fin (by unfold I64; omega) (by unfold I64; omega) (by omega)
  rw [if_neg k5] at h
  by_cases k8 : e.kind = 8
  · rw [if_pos k8] at h
    unfold idRight at h
    simp only [decide_eq_true_eq] at h
    rw [if_neg (by omega), if_neg (by omega), if_pos k8] at hn
    have e4 := congrArg Eff.obj hn
    simp only at e4
    exact fin (by unfold I64; omega) (by unfold I64; omega) (by rw [e4]; omega)
  rw [if_neg k8] at h
  cases h

theorem rdMsg_enc {m : Msg} (h : MI m) (b : List UInt8) : rdMsg (some (encM m ++ b)) = (m, some b) := by
  unfold rdMsg encM
  simp only [List.append_assoc]
  rw [rdInt_enc _ _ h.id]; simp only
  rw [rdInt_enc _ _ h.pri]; simp only
  rw [rdInt_enc _ _ h.retry]; simp only
  rw [rdFlag_enc]; simp only
  rw [rdText_enc _ _ h.corr]; simp only
  rw [rdText_enc _ _ h.body]; simp
theorem rdEff_enc {e : Eff} (h : EI e) (b : List UInt8) : rdEff (some (encE e ++ b)) = (e, some b) := by
  unfold rdEff encE
  simp only [List.append_assoc]
  rw [rdInt_enc _ _ h.kind]; simp only
  rw [rdText_enc _ _ h.obj]; simp only
  rw [rdText_enc _ _ h.key]; simp only
  rw [rdText_enc _ _ h.val]; simp only
  rw [rdInt_enc _ _ h.n]; simp only
  rw [rdInt_enc _ _ h.limit]; simp only
  rw [rdFlag_enc]; simp only
  rw [rdMsg_enc h.msg]
theorem rdEffG_enc {l : List Eff} (h : ∀ e ∈ l, eRight e = true) (b : List UInt8) : rdEffG l.length (some (l.flatMap encE ++ b)) = some (l, some b) := by
  induction l with
  | nil => rfl
  | cons e l ih =>
    have he := h e List.mem_cons_self
    have e1 : (e :: l).flatMap encE ++ b = encE e ++ (l.flatMap encE ++ b) := by rw [List.flatMap_cons, List.append_assoc]
    rw [e1]
    show (if (rdEff (some (encE e ++ (l.flatMap encE ++ b)))).2.isNone || !eRight (rdEff (some (encE e ++ (l.flatMap encE ++ b)))).1 then none else (rdEffG l.length (rdEff (some (encE e ++ (l.flatMap encE ++ b)))).2).map fun y => ((rdEff (some (encE e ++ (l.flatMap encE ++ b)))).1 :: y.1, y.2)) = _
    rw [rdEff_enc (eRight_ei he)]
    simp only [he, Option.isNone_some, Bool.not_true, Bool.or_self, Bool.false_eq_true, if_false]
    rw [ih fun x hx => h x (List.mem_cons_of_mem _ hx)]
    rfl
theorem rdEffs_enc {l : List Eff} (h : ∀ e ∈ l, eRight e = true) (hl : l.length ≤ 10000) : rdEffs (encEs l) = some l := by
  unfold rdEffs encEs
  have h1 := rdInt_enc (l.length : Int) (l.flatMap encE) (by omega)
  simp only [h1]
  rw [if_neg (by simp; omega), Int.toNat_natCast]
  have h2 := rdEffG_enc h []
  rw [List.append_nil] at h2
  rw [h2]
  simp [rdDone]

theorem rdListG_enc {α : Type} {f : List α → Rd → Bool → List α × Rd × Bool} {enc : α → List UInt8} {l : List α} (hf : ∀ x ∈ l, ∀ L b w, f L (some (enc x ++ b)) w = (L ++ [x], some b, w)) (L : List α) (b : List UInt8) (w : Bool) :
    rdListG f l.length (L, some (l.flatMap enc ++ b), w) = (L ++ l, some b, w) := by
  induction l generalizing L with
  | nil => simp [rdListG]
  | cons x l ih =>
    have e1 : (x :: l).flatMap enc ++ b = enc x ++ (l.flatMap enc ++ b) := by rw [List.flatMap_cons, List.append_assoc]
    rw [e1]
    show (if (some (enc x ++ (l.flatMap enc ++ b))).isNone then _ else rdListG f l.length (f L (some (enc x ++ (l.flatMap enc ++ b))) w)) = _
    rw [if_neg (by simp), hf x List.mem_cons_self, ih fun y hy => hf y (List.mem_cons_of_mem _ hy)]
    simp
theorem rdList_enc {α : Type} {f : List α → Rd → Bool → List α × Rd × Bool} {enc : α → List UInt8} {l : List α} (hl : l.length ≤ 1000000000) (hf : ∀ x ∈ l, ∀ L b w, f L (some (enc x ++ b)) w = (L ++ [x], some b, w)) (b : List UInt8) (w : Bool) :
    rdList f [] (some (encI l.length ++ (l.flatMap enc ++ b))) w = (l, some b, w) := by
  unfold rdList
  rw [rdInt_enc (l.length : Int) _ (by omega)]
  have hd : decide ((l.length : Int) < 0) = false := by rw [decide_eq_false]; omega
  simp only [hd, Bool.or_false, Int.toNat_natCast]
  have := rdListG_enc hf [] b w
  simpa using this
theorem rdMsgs_enc {l : List Msg} (hl : l.length ≤ 1000000000) (h : ∀ m ∈ l, MI m) (b : List UInt8) (w : Bool) : rdMsgs (some (encMs l ++ b)) w = (l, some b, w) := by
  unfold encMs
  rw [List.append_assoc]
  exact rdList_enc hl (fun m hm L b w => by rw [rdMsg_enc (h m hm)]) b w
theorem rdRows_enc {l : List Row} (hl : l.length ≤ 1000000000) (h : ∀ r ∈ l, rRight r = true) (b : List UInt8) (w : Bool) : rdRows (some (encI l.length ++ (l.flatMap encR ++ b))) w = (l, some b, w) := by
  refine rdList_enc hl (fun r hr L b w => ?_) b w
  have := rRight_sz (h r hr)
  unfold rdRow encR
  rw [List.append_assoc, rdText_enc _ _ (by omega)]
  simp only
  rw [rdText_enc _ _ (by omega)]
theorem oRight_parts {o : Obj} (h : oRight o = true) : o.name.size ≤ 16 ∧ I64 o.kind ∧ I64 o.limit ∧ (∀ r ∈ o.rows, rRight r = true) ∧ (∀ m ∈ o.msgs, MI m) ∧ ∀ m ∈ o.dead, MI m := by
  unfold oRight oRight0 nRight at h
  simp only [Bool.and_eq_true, decide_eq_true_eq] at h
  obtain ⟨⟨h1, h2⟩, h3⟩ := h
  have hkl : I64 o.kind ∧ I64 o.limit := by
    split at h2
    · rename_i hk
      simp only [decide_eq_true_eq] at h2
      exact ⟨by unfold I64; omega, by unfold I64; omega⟩
    · split at h2
      · simp only [decide_eq_true_eq] at h2
        exact ⟨by unfold I64; omega, by unfold I64; omega⟩
      · cases h2
  refine ⟨h1.2, hkl.1, hkl.2, ?_⟩
  split at h3
  · simp only [Bool.and_eq_true, decide_eq_true_eq, List.all_eq_true] at h3
    obtain ⟨⟨⟨a, b⟩, c⟩, d⟩ := h3
    exact ⟨d, by rw [List.eq_nil_of_length_eq_zero a]; simp, by rw [List.eq_nil_of_length_eq_zero b]; simp⟩
  · simp only [Bool.and_eq_true, decide_eq_true_eq, List.all_eq_true] at h3
    obtain ⟨⟨⟨a, b⟩, c⟩, d⟩ := h3
    exact ⟨by rw [List.eq_nil_of_length_eq_zero a]; simp, fun m hm => mRight_mi (c m hm), fun m hm => mRight_mi (d m hm).2⟩
theorem rdObj_enc {o : Obj} (h : oRight o = true) (hl : OL 1000000000 o) (b : List UInt8) (w : Bool) : rdObj (some (encO o ++ b)) w = (o, some b, w) := by
  obtain ⟨h1, h2, h3, h4, h5, h6⟩ := oRight_parts h
  unfold rdObj encO
  simp only [List.append_assoc]
  rw [rdText_enc _ _ (by omega)]; simp only
  rw [rdInt_enc _ _ h2]; simp only
  rw [rdInt_enc _ _ h3]; simp only
  rw [rdRows_enc hl.rows h4]; simp only
  rw [rdMsgs_enc hl.msgs h5]; simp only
  rw [rdMsgs_enc hl.dead h6]
/-- an image of a state that may be, read -/
theorem rdImage_enc {s : Stt} (h : sRight s = true) (hl : LB 1000000000 s) : rdImage (image s) = some s := by
  obtain ⟨a1, a2, a3, a4⟩ := sRight_all h
  unfold rdImage rdState image
  rw [if_pos h]
  unfold encS
  simp only [List.append_assoc]
  rw [rdInt_enc _ _ (by omega)]
  have e : s.objs.flatMap encO = s.objs.flatMap encO ++ [] := by simp
  rw [e]
  have h1 : rdObjs (some (encI s.objs.length ++ (s.objs.flatMap encO ++ []))) false = (s.objs, some [], false) :=
    rdList_enc (by omega) (fun o ho L b w => by rw [rdObj_enc (a4 o ho) (hl.ob o ho)]) [] false
  simp only [h1]
  have e2 : (⟨s.next, s.objs⟩ : Stt) = s := rfl
  rw [e2, h]
  rfl
end Go.Pst

namespace Go.Pst
open Go Go.Proofs

theorem DG.puts2 {l : List Sec} : ∀ {D : DSt} {a : Nat}, DG D → a + l.length ≤ 354 → (∀ s ∈ l, s.length = 64) → ∀ j s, l[j]? = some s → (dPuts D a l).2.now[a + j]? = some s := by
  induction l with
  | nil => intro D a _ _ _ j s h; simp at h
  | cons s l ih =>
    intro D a h ha hs j s' hj
    simp only [List.length_cons] at ha
    obtain ⟨h1, h2, h3, h4⟩ := h.w (i := a) (b := s) (by omega) (hs s List.mem_cons_self)
    have hl : ∀ x ∈ l, x.length = 64 := fun x hx => hs x (List.mem_cons_of_mem _ hx)
    have := ih (D := dWrite D a s) (a := a + 1) h2 (by omega) hl
    obtain ⟨_, _, g3, _⟩ := DG.puts (l := l) (D := dWrite D a s) (a := a + 1) h2 (by omega) hl
    rw [show ((a + 1 : Nat) : Int) = (a : Int) + 1 from by omega] at this g3
    unfold dPuts
    rw [if_pos h1]
    cases j with
    | zero =>
      simp only [List.getElem?_cons_zero, Option.some.injEq] at hj
      subst hj
      rw [Nat.add_zero, g3 a (by omega), h3, Int.toNat_natCast, List.getElem?_set_self (by rw [h.len]; omega)]
    | succ j =>
      rw [show a + (j + 1) = a + 1 + j from by omega]
      exact this j s' (by simpa using hj)
theorem chunks_flat {n : Nat} : ∀ {l : List UInt8}, l.length = n * 64 → (chunks n l).flatten = l := by
  induction n with
  | zero => intro l h; simp at h; subst h; rfl
  | succ n ih =>
    intro l h
    simp only [chunks, List.flatten_cons]
    rw [ih (by simp; omega), List.take_append_drop]
theorem dGet_of {D : DSt} {a : Nat} {l : List UInt8} (h : DG D) (ha : a + nd l.length ≤ 354) (hc : ∀ j s, (chunks (nd l.length) (fill l))[j]? = some s → D.now[a + j]? = some s) : dGet D a l.length = l := by
  have hn : nd l.length ≤ 354 := by omega
  have hl : l.length ≤ 262144 := by unfold nd at hn; omega
  unfold dGet
  have hm : max 0 (min (l.length : Int) 262144) = (l.length : Int) := by omega
  simp only [hm, needI_nat]
  rw [if_pos (by unfold spIs; rw [h.len]; simp; omega)]
  have hs : (D.now.drop a).take (nd l.length) = chunks (nd l.length) (fill l) := by
    apply List.ext_getElem?
    intro j
    by_cases hj : j < nd l.length
    · obtain ⟨s, hs⟩ : ∃ s, (chunks (nd l.length) (fill l))[j]? = some s := ⟨_, List.getElem?_eq_getElem (by rw [chunks_len]; exact hj)⟩
      rw [hs, List.getElem?_take, if_pos hj, List.getElem?_drop]
      exact hc j s hs
    · rw [List.getElem?_eq_none (by rw [List.length_take]; omega), List.getElem?_eq_none (by rw [chunks_len]; omega)]
  rw [Int.toNat_natCast, Int.toNat_natCast, Int.toNat_natCast, hs, chunks_flat (fill_len l)]
  unfold fill
  exact List.take_left
theorem DG.put2 {D : DSt} (h : DG D) {a : Nat} {l : List UInt8} (ha : a + nd l.length ≤ 354) : ∀ j s, (chunks (nd l.length) (fill l))[j]? = some s → (dPut D a l).2.now[a + j]? = some s := by
  intro j s hj
  unfold dPut
  split
  · rename_i h0
    have : nd l.length = 0 := by unfold nd; rw [h0]
    rw [this] at hj
    simp [chunks] at hj
  · rw [if_pos (by unfold spIs; simp [h.len]; omega)]
    exact h.puts2 (by rw [chunks_len]; exact ha) (chunks_sec (fill_len l)) j s hj

/-- what an append to a log has written -/
structure LogPut (D D' : DSt) (nx : Nat) (hd : Sec) (l : List UInt8) : Prop where
  g : DG D'
  same : ∀ j : Nat, (j < nx ∨ nx + 2 + nd l.length ≤ j) → D'.now[j]? = D.now[j]?
  head : D'.now[nx]? = some hd
  data : dGet D' ((nx : Int) + 1) l.length = l
  zero : nx + 1 + nd l.length < 354 → D'.now[nx + 1 + nd l.length]? = some zsec
theorem DG.lput2 {D : DSt} (h : DG D) {L : LSt} {k : Nat} {l : List UInt8} {nx : Nat} (hen : L.en = 354) (hx : L.nx = nx) (hnx : 194 ≤ nx) (hf : nx + 1 + nd l.length ≤ 354) :
    LogPut D (lgPut D L k l).2 nx (headB L.ep (k + 1) l.length) l := by
  obtain ⟨g1, g2, g3, g4⟩ := h.put (a := nx + 1) (l := l) (by omega)
  have g5 := h.put2 (a := nx + 1) (l := l) (by omega)
  have put2 : ∀ D2, DG D2 → (∀ j : Nat, (j < nx ∨ nx + 2 + nd l.length ≤ j) → D2.now[j]? = D.now[j]?) → (∀ j s, (chunks (nd l.length) (fill l))[j]? = some s → D2.now[nx + 1 + j]? = some s) → (nx + 1 + nd l.length < 354 → D2.now[nx + 1 + nd l.length]? = some zsec) →
      LogPut D (lgPut2 D2 L k l.length).2 nx (headB L.ep (k + 1) l.length) l := by
    intro D2 hD2 hs hc hz
    obtain ⟨s1, s2, s3⟩ := hD2.s
    obtain ⟨w1, w2, w3, w4⟩ := s1.w (i := L.nx) (b := headB L.ep (k + 1) l.length) (by omega) (headB_len _ _ _)
    obtain ⟨t1, t2, t3⟩ := w2.s
    unfold lgPut2
    rw [if_neg (by rw [hD2.nb]; decide), if_neg (by rw [w1]; decide), if_neg (by rw [w2.nb]; decide)]
    have hnow : (dSync (dWrite (dSync D2) L.nx (headB L.ep (k + 1) l.length))).now = D2.now.set nx (headB L.ep (k + 1) l.length) := by rw [t2, w3, s2, hx, Int.toNat_natCast]
    have hout : ∀ j : Nat, j ≠ nx → (dSync (dWrite (dSync D2) L.nx (headB L.ep (k + 1) l.length))).now[j]? = D2.now[j]? := fun j hj => by rw [hnow, List.getElem?_set_ne (by omega)]
    refine ⟨t1, fun j hj => by simp only; rw [hout j (by omega)]; exact hs j hj, ?_, ?_, fun hb => by simp only; rw [hout _ (by omega)]; exact hz hb⟩
    · simp only
      rw [hnow, List.getElem?_set_self (by rw [hD2.len]; omega)]
    · simp only
      have := dGet_of (D := dSync (dWrite (dSync D2) L.nx (headB L.ep (k + 1) l.length))) (a := nx + 1) (l := l) t1 (by omega) fun j s hj => by rw [hout _ (by omega)]; exact hc j s hj
      rw [show ((nx + 1 : Nat) : Int) = (nx : Int) + 1 from by omega] at this
      exact this
  unfold lgPut
  simp only [hx, hen] at *
  rw [show ((nx : Int) + 1) = ((nx + 1 : Nat) : Int) from by omega]
  rw [if_neg (by rw [g1]; decide)]
  split
  · rename_i hb
    obtain ⟨w1, w2, w3, w4⟩ := g2.w (i := ((nx + 1 : Nat) : Int) + nd l.length) (b := zsec) (by omega) (by simp [zsec])
    rw [if_neg (by rw [w1]; decide)]
    have ei : (((nx + 1 : Nat) : Int) + nd l.length).toNat = nx + 1 + nd l.length := by omega
    refine put2 _ w2 (fun j hj => ?_) (fun j s hj => ?_) (fun _ => ?_)
    · rw [w3, ei, List.getElem?_set_ne (by omega)]
      exact g3 j (by omega)
    · have hjl : j < nd l.length := by
        have := (List.getElem?_eq_some_iff.1 hj).1
        rwa [chunks_len] at this
      rw [w3, ei, List.getElem?_set_ne (by omega)]
      exact g5 j s hj
    · rw [w3, ei, List.getElem?_set_self (by rw [g2.len]; omega)]
  · rename_i hb
    exact put2 _ g2 (fun j hj => g3 j (by omega)) g5 (fun hb' => absurd (show ((nx + 1 : Nat) : Int) + nd l.length < 354 by omega) hb)
end Go.Pst

namespace Go.Pst
open Go Go.Proofs

theorem dRead_congr {D D' : DSt} {i : Int} (h : D'.now[i.toNat]? = D.now[i.toNat]?) : dRead D' i = dRead D i := by
  unfold dRead
  rw [List.getD_eq_getElem?_getD, List.getD_eq_getElem?_getD, h]
theorem spIs_congr {D D' : DSt} (h : D'.now.length = D.now.length) (a n : Int) : spIs D' a n = spIs D a n := by unfold spIs; rw [h]
theorem needI_clip (n : Int) : needI (max 0 (min n 262144)) ≤ needI n := by unfold needI; split <;> split <;> omega
theorem dGet_congr {D D' : DSt} {a n : Int} (hl : D'.now.length = D.now.length) (ha : 0 ≤ a) (h : ∀ j : Nat, a ≤ j → (j : Int) < a + needI n → D'.now[j]? = D.now[j]?) : dGet D' a n = dGet D a n := by
  have hc := needI_clip n
  have h0 := needI_nn (max 0 (min n 262144))
  unfold dGet
  simp only
  rw [spIs_congr hl]
  have e : (D'.now.drop a.toNat).take (needI (max 0 (min n 262144))).toNat = (D.now.drop a.toNat).take (needI (max 0 (min n 262144))).toNat := by
    apply List.ext_getElem?
    intro j
    rw [List.getElem?_take, List.getElem?_take]
    split
    · rw [List.getElem?_drop, List.getElem?_drop]
      exact h _ (by omega) (by omega)
    · rfl
  rw [e]
theorem rootOf_congr {D D' : DSt} {i : Int} (h : dRead D' i = dRead D i) : rootOf D' i = rootOf D i := by unfold rootOf; rw [h]
theorem rootOk_congr {D D' : DSt} {w : Int} (hl : D'.now.length = D.now.length) (h : dRead D' (0 + w) = dRead D (0 + w)) (e n : Int) : rootOk D' 0 96 w e n = rootOk D 0 96 w e n := by
  unfold rootOk; rw [h, spIs_congr hl]
theorem rootRd_fst {D D' : DSt} {w : Int} (hl : D'.now.length = D.now.length) (h : dRead D' (0 + w) = dRead D (0 + w)) : (rootRd D' 0 96 w).1 = (rootRd D 0 96 w).1 := by
  unfold rootRd
  simp only
  rw [rootOf_congr h, rootOk_congr hl h]
  split <;> rfl
theorem rootRd_congr {D D' : DSt} {w : Int} (hl : D'.now.length = D.now.length) (hw : 0 ≤ w ∧ w ≤ 1) (h : ∀ j : Nat, j < 194 → D'.now[j]? = D.now[j]?) : rootRd D' 0 96 w = rootRd D 0 96 w := by
  have hr : dRead D' (0 + w) = dRead D (0 + w) := dRead_congr (h _ (by omega))
  unfold rootRd
  simp only
  rw [rootOf_congr hr, rootOk_congr hl hr]
  split
  · rename_i ho
    unfold rootOk at ho
    simp only [Bool.and_eq_true, decide_eq_true_eq] at ho
    obtain ⟨⟨o1, o2, o3, o4, o5⟩, o6⟩ := ho
    have hp : 0 ≤ rplace 0 96 (rootOf D (0 + w)).1 ∧ rplace 0 96 (rootOf D (0 + w)).1 + 96 ≤ 194 := by unfold rplace; omega
    have hn : needI (rootOf D (0 + w)).2 ≤ 96 := by unfold needI; split <;> omega
    rw [dGet_congr hl hp.1 fun j h1 h2 => h j (by omega)]
  · rfl
theorem rootsRd_congr {D D' : DSt} (hl : D'.now.length = D.now.length) (h : ∀ j : Nat, j < 194 → D'.now[j]? = D.now[j]?) : rootsRd D' 0 96 = rootsRd D 0 96 := by
  have e : rcut 96 = 96 := by decide
  unfold rootsRd
  rw [spIs_congr hl, e, rootRd_congr hl (by omega) h, rootRd_congr hl (by omega) h]

theorem lgNext_congr {D D' : DSt} {L L' : LSt} {R R' : List (List UInt8)} (hl : D'.now.length = D.now.length) (h0 : 0 ≤ L.nx) (h : lgNext D L R = some (L', R')) (hs : ∀ j : Nat, (j : Int) < L'.nx → D'.now[j]? = D.now[j]?) : lgNext D' L R = some (L', R') := by
  have hok := lgNext_ok h
  have hr : dRead D' L.nx = dRead D L.nx := dRead_congr (hs _ (by omega))
  unfold lgNext lgOk at h ⊢
  rw [hr]
  split at h
  · rename_i ho
    rw [if_pos ho]
    have e := h
    simp only [Option.some.injEq, Prod.mk.injEq] at e
    have e1 := congrArg LSt.nx e.1
    simp only at e1
    rw [dGet_congr hl (by omega) fun j h1 h2 => hs j (by omega)]
    exact h
  · cases h
theorem lgAll_pre {D D' : DSt} (hl : D'.now.length = D.now.length) : ∀ (k : Nat) (L : LSt) (R : List (List UInt8)) (L1 : LSt) (R1 : List (List UInt8)), 0 ≤ L.nx → lgAll D k L R = (L1, R1) → (∀ j : Nat, (j : Int) < L1.nx → D'.now[j]? = D.now[j]?) →
    ∃ m, R1.length = R.length + m ∧ m ≤ k ∧ L.nx + m ≤ L1.nx ∧ lgAll D' k L R = lgAll D' (k - m) L1 R1 := by
  intro k
  induction k with
  | zero =>
    intro L R L1 R1 h0 h hs
    rw [lgAll_zero] at h
    cases h
    exact ⟨0, rfl, Nat.le_refl _, by omega, rfl⟩
  | succ k ih =>
    intro L R L1 R1 h0 h hs
    cases hf : lgFits L 0 with
    | false =>
      rw [lgAll_no k hf] at h
      cases h
      exact ⟨0, rfl, Nat.zero_le _, by omega, rfl⟩
    | true =>
      cases hn : lgNext D L R with
      | none =>
        rw [lgAll_none k hn] at h
        cases h
        exact ⟨0, rfl, Nat.zero_le _, by omega, rfl⟩
      | some x =>
        obtain ⟨L', R'⟩ := x
        rw [lgAll_some k hf hn] at h
        have hok := lgNext_ok hn
        obtain ⟨m, h1, h2, h3, h4⟩ := ih L' R' L1 R1 (by omega) h hs
        have hn' := lgNext_congr hl h0 hn fun j hj => hs j (by omega)
        refine ⟨m + 1, by omega, by omega, by omega, ?_⟩
        rw [lgAll_some k hf hn', h4, show k + 1 - (m + 1) = k - m from by omega]

theorem lgSize_head {e k n : Int} (he : I64 e) (hk : I64 k) (hn : I64 n) : lgSize (headB e k n) = n := by
  unfold lgSize headB fill
  simp only [List.append_assoc]
  rw [rdText_enc _ _ (by decide)]; simp only
  rw [rdInt_enc _ _ he]; simp only
  rw [rdInt_enc _ _ hk]; simp only
  rw [rdInt_enc _ _ hn]
theorem rootOf_root {D : DSt} {i e n : Int} (he : I64 e) (hn : I64 n) (h : dRead D i = rootB e n) : rootOf D i = (e, n) := by
  unfold rootOf
  rw [h]
  unfold rootB fill
  simp only [List.append_assoc]
  rw [rdText_enc _ _ (by decide)]; simp only
  rw [rdInt_enc _ _ he]; simp only
  rw [rdInt_enc _ _ hn]

theorem kLog_eq {D : DSt} (h : D.now.length = 354) (ep : Int) : kLog D ep = lgAll D 160 ⟨194, 354, 194, ep, false⟩ [] := by
  unfold kLog lgOpen
  have hsp : spIs D 194 0 = true := by unfold spIs; simp [h]
  simp only [hsp, if_true, h]
  have e1 : (194 + max 0 (min 160 (((354 : Nat) : Int) - 194))) = 354 := by decide
  rw [e1]; rfl
/-- the log behind an append -/
theorem kLog_put {D D' : DSt} {ep : Int} {L : LSt} {R : List (List UInt8)} {nx : Nat} {b : List UInt8} (hD : DG D) (hlog : kLog D ep = (L, R)) (hx : L.nx = nx) (hnx : 194 + R.length ≤ nx) (hen : L.en = 354) (hep : L.ep = ep) (he : I64 ep) (hf : nx + 1 + nd b.length ≤ 354)
    (hp : LogPut D D' nx (headB ep (R.length + 1) b.length) b) : kLog D' ep = ({ L with nx := L.nx + (1 + nd b.length) }, R ++ [b]) := by
  have hl : D'.now.length = D.now.length := by rw [hp.g.len, hD.len]
  rw [kLog_eq hD.len] at hlog
  rw [kLog_eq hp.g.len]
  obtain ⟨m, h1, h2, h3, h4⟩ := lgAll_pre hl 160 _ _ _ _ (by simp) hlog fun j hj => hp.same j (.inl (by omega))
  simp only [List.length_nil, Nat.zero_add] at h1
  rw [h4]
  have hbl : b.length ≤ 22656 := by unfold nd at hf; omega
  have hrd : dRead D' L.nx = headB ep (R.length + 1) b.length := by
    unfold dRead
    rw [if_pos (by omega), List.getD_eq_getElem?_getD, hx, Int.toNat_natCast, hp.head]; rfl
  have hsz : lgSize (dRead D' L.nx) = b.length := by rw [hrd]; exact lgSize_head he (by unfold I64; omega) (by unfold I64; omega)
  have hfit : lgFits L b.length = true := by unfold lgFits; rw [needI_nat, hen]; simp only [decide_eq_true_eq]; omega
  have hfit0 : lgFits L 0 = true := by unfold lgFits; rw [show needI 0 = 0 from rfl, hen]; simp only [decide_eq_true_eq]; omega
  have hnext : lgNext D' L R = some ({ L with nx := L.nx + (1 + nd b.length) }, R ++ [b]) := by
    unfold lgNext
    rw [hsz]
    have hok : lgOk D' L R.length b.length = true := by
      unfold lgOk
      rw [hfit, hrd, hep]
      simp
    rw [if_pos hok, needI_nat, hx, hp.data]
    have e : (nx : Int) + 1 + (nd b.length : Nat) = nx + (1 + nd b.length) := by omega
    rw [e]
  obtain ⟨q, hq⟩ : ∃ q, 160 - m = q + 1 := ⟨160 - m - 1, by omega⟩
  rw [hq, lgAll_some q hfit0 hnext]
  cases q with
  | zero => rfl
  | succ q =>
    by_cases hb : nx + 1 + nd b.length < 354
    · refine lgAll_none q ?_
      unfold lgNext
      rw [if_neg]
      unfold lgOk
      simp only [Bool.and_eq_true, decide_eq_true_eq, not_and]
      intro _ hh
      have hz : dRead D' (L.nx + (1 + nd b.length)) = zsec := by
        unfold dRead
        rw [if_pos (by omega), List.getD_eq_getElem?_getD, show (L.nx + (1 + (nd b.length : Int))).toNat = nx + 1 + nd b.length from by omega, hp.zero hb]; rfl
      rw [hz] at hh
      exact zsec_head _ _ _ hh
    · refine lgAll_no q ?_
      unfold lgFits
      simp only [hen, decide_eq_false_iff_not]
      omega
end Go.Pst

namespace Go.Pst
open Go Go.Proofs

/-- the image behind its writing -/
theorem DG.root2 {D : DSt} (h : DG D) {ep : Int} {l : List UInt8} (he : 1 ≤ ep) (he2 : ep < 2000000000000) (hl : l.length ≤ 6144) (h0 : (rootRd D 0 96 0).1 < ep) (h1 : (rootRd D 0 96 1).1 < ep) :
    rootsRd (rootsWr D 0 96 ep l).2 0 96 = (ep, l, true) ∧ (rootRd (rootsWr D 0 96 ep l).2 0 96 0).1 ≤ ep ∧ (rootRd (rootsWr D 0 96 ep l).2 0 96 1).1 ≤ ep := by
  have hnd : nd l.length ≤ 96 := by unfold nd; omega
  have hr : rcut 96 = 96 := rfl
  have hsp : spIs D 0 0 = true := by unfold spIs; simp
  obtain ⟨pt, hpt, hpt1, hpt2⟩ : ∃ pt : Nat, rplace 0 96 ep = pt ∧ 2 ≤ pt ∧ pt + 96 ≤ 194 := by
    refine ⟨(rplace 0 96 ep).toNat, ?_, ?_, ?_⟩ <;> unfold rplace <;> omega
  obtain ⟨fw, hfw, hfw2⟩ : ∃ fw : Nat, ep % 2 = fw ∧ fw ≤ 1 := ⟨(ep % 2).toNat, by omega, by omega⟩
  obtain ⟨g1, g2, g3, g4⟩ := h.put (a := pt) (l := l) (by omega)
  have g5 := h.put2 (a := pt) (l := l) (by omega)
  obtain ⟨s1, s2, s3⟩ := g2.s
  obtain ⟨w1, w2, w3, w4⟩ := s1.w (i := ep % 2) (b := rootB ep l.length) (by omega) (rootB_len _ _)
  obtain ⟨t1, t2, t3⟩ := w2.s
  obtain ⟨D', hD'⟩ : ∃ D', D' = dSync (dWrite (dSync (dPut D pt l).2) (ep % 2) (rootB ep l.length)) := ⟨_, rfl⟩
  have hres : (rootsWr D 0 96 ep l).2 = D' := by
    rw [hD']
    unfold rootsWr
    rw [if_neg (by omega), hr, if_neg (by omega)]
    simp only [hsp, if_true, hpt, Int.zero_add]
    rw [if_neg (by rw [g1]; decide), if_neg (by rw [g2.nb]; decide), if_neg (by rw [w1]; decide), if_neg (by rw [w2.nb]; decide)]
  rw [hres]
  have hnow : D'.now = (dPut D pt l).2.now.set fw (rootB ep l.length) := by rw [hD', t2, w3, s2, hfw, Int.toNat_natCast]
  have hg : DG D' := by rw [hD']; exact t1
  have hlen : D'.now.length = D.now.length := by rw [hg.len, h.len]
  have hroot : dRead D' (0 + ep % 2) = rootB ep l.length := by
    unfold dRead
    rw [if_pos (by omega), List.getD_eq_getElem?_getD, hnow, show (0 + ep % 2).toNat = fw from by omega, List.getElem?_set_self (by rw [g2.len]; omega)]; rfl
  have hdata : dGet D' pt l.length = l := dGet_of hg (by omega) fun j s hj => by rw [hnow, List.getElem?_set_ne (by omega)]; exact g5 j s hj
  have hrO := rootOf_root (D := D') (e := ep) (n := l.length) (by unfold I64; omega) (by unfold I64; omega) hroot
  have hnew : rootRd D' 0 96 (ep % 2) = (ep, l, true) := by
    unfold rootRd
    simp only
    rw [hrO]
    have hok : rootOk D' 0 96 (ep % 2) ep l.length = true := by
      unfold rootOk
      rw [hroot, needI_nat, hpt]
      have : spIs D' pt (nd l.length) = true := by unfold spIs; rw [hg.len]; simp only [decide_eq_true_eq]; omega
      rw [this]
      simp only [Bool.and_true, decide_eq_true_eq]
      exact ⟨he, trivial, by omega, by omega, trivial⟩
    simp only [hok, if_true]
    rw [hpt, hdata]
  have hother : ∀ w : Nat, w ≤ 1 → w ≠ fw → (rootRd D' 0 96 w).1 < ep := by
    intro w hw hne
    have hrd : dRead D' (0 + (w : Int)) = dRead D (0 + (w : Int)) := dRead_congr (by
      rw [show (0 + (w : Int)).toNat = w from by omega, hnow, List.getElem?_set_ne (by omega)]
      exact g3 w (by omega))
    rw [rootRd_fst hlen hrd]
    rcases Nat.lt_or_ge w 1 with h' | h'
    · have : w = 0 := by omega
      subst this; exact h0
    · have : w = 1 := by omega
      subst this; exact h1
  have hs' : spIs D' 0 0 = true := by unfold spIs; simp
  rcases Nat.lt_or_ge fw 1 with hf | hf
  · have hf0 : fw = 0 := by omega
    have e0 : rootRd D' 0 96 0 = (ep, l, true) := by rw [← hnew, hfw, hf0]; rfl
    have e1 := hother 1 (by omega) (by omega)
    refine ⟨?_, by rw [e0]; exact Int.le_refl _, Int.le_of_lt e1⟩
    unfold rootsRd
    rw [if_pos hs', hr]
    simp only [e0]
    rw [if_neg]
    intro hh
    have e1' : (rootRd D' 0 96 1).1 < ep := e1
    omega
  · have hf0 : fw = 1 := by omega
    have e0 : rootRd D' 0 96 1 = (ep, l, true) := by rw [← hnew, hfw, hf0]; rfl
    have e1 : (rootRd D' 0 96 0).1 < ep := hother 0 (by omega) (by omega)
    refine ⟨?_, Int.le_of_lt e1, by rw [e0]; exact Int.le_refl _⟩
    unfold rootsRd
    rw [if_pos hs', hr]
    simp only [e0]
    rw [if_pos ⟨trivial, e1⟩]

/-- what the disk of a store holds: the image of a state, and records -/
structure KH (base : Stt) (R : List (List UInt8)) (S : KSt) : Prop where
  root : rootsRd S.disk 0 96 = (S.epoch, image base, true)
  img : rdImage (image base) = some base
  log : kLog S.disk S.epoch = (S.log, R)
  k : S.k = R.length
  play : kPlay R base = some S.st
  ep : 1 ≤ S.epoch
  e0 : (rootRd S.disk 0 96 0).1 ≤ S.epoch
  e1 : (rootRd S.disk 0 96 1).1 ≤ S.epoch
  dead : S.dead = false
theorem KH.read {base : Stt} {R : List (List UInt8)} {S : KSt} (h : KH base R S) : kRead S.disk = some S := by
  have e : kRead S.disk = (match (if (rootsRd S.disk 0 96).2.2 then rdImage (rootsRd S.disk 0 96).2.1 else some s1) with
    | none => none
    | some s =>
      match kPlay (kLog S.disk (if (rootsRd S.disk 0 96).2.2 then (rootsRd S.disk 0 96).1 else 0)).2 s with
      | none => none
      | some s' => some ⟨S.disk, (kLog S.disk (if (rootsRd S.disk 0 96).2.2 then (rootsRd S.disk 0 96).1 else 0)).1, (kLog S.disk (if (rootsRd S.disk 0 96).2.2 then (rootsRd S.disk 0 96).1 else 0)).2.length, s', (if (rootsRd S.disk 0 96).2.2 then (rootsRd S.disk 0 96).1 else 0), false⟩) := rfl
  rw [e, h.root]
  simp only [if_true, h.img, h.log, h.play]
  rw [← h.k, ← h.dead]

theorem kPlay_snoc {R : List (List UInt8)} {b : List UInt8} {s s' s'' : Stt} {es : List Eff} (h : kPlay R s = some s') (hb : rdEffs b = some es) (ha : sApply s' es = (0, s'')) : kPlay (R ++ [b]) s = some s'' := by
  induction R generalizing s with
  | nil =>
    cases h
    show (match rdEffs b with
      | none => none
      | some es => if (sApply s' es).1 = 0 then kPlay [] (sApply s' es).2 else none) = _
    rw [hb]
    simp only [ha, if_true]
    rfl
  | cons c R ih =>
    rw [List.cons_append]
    unfold kPlay at h ⊢
    split at h
    · cases h
    · split at h
      · rename_i hh; rw [if_pos hh]; exact ih h
      · cases h

/-- .. behind an append that finds room -/
theorem KH.app {N : Int} {base : Stt} {R : List (List UInt8)} {S : KSt} (h : KH base R S) (hg : KG N S) (hN : N ≤ 1000000000000) {b : List UInt8} (hf : S.log.nx + 1 + nd b.length ≤ 354) {es : List Eff} {s' : Stt} (hb : rdEffs b = some es) (ha : sApply S.st es = (0, s')) :
    KH base (R ++ [b]) { (kApp S b).2 with st := s' } ∧ (kApp S b).2.log.nx = S.log.nx + (1 + nd b.length) := by
  have hn := hg.nx
  have he := hg.ep
  obtain ⟨nx, hnx⟩ : ∃ nx : Nat, S.log.nx = nx := ⟨S.log.nx.toNat, by omega⟩
  have hp := hg.d.lput2 (L := S.log) (k := S.k) (l := b) (nx := nx) hg.en hnx (by omega) (by omega)
  obtain ⟨g1, g2, g3, g4⟩ := hg.d.lput (L := S.log) (k := S.k) (l := b) hg.en (by omega) hf
  have hfit : lgFits S.log b.length = true := by
    unfold lgFits
    rw [needI_nat, hg.en]; simp only [decide_eq_true_eq]; omega
  have hA : lgApp S.disk S.log S.k b = (0, (lgPut S.disk S.log S.k b).2, { S.log with nx := S.log.nx + (1 + nd b.length) }, S.k + 1) := by
    unfold lgApp
    rw [if_neg (by rw [hg.lf]; decide), if_neg (by rw [hfit]; decide)]
    simp only
    rw [if_pos g1]
  have hk := h.k
  have hep := h.ep
  have hl : (lgPut S.disk S.log S.k b).2.now.length = S.disk.now.length := by rw [hp.g.len, hg.d.len]
  have hs : ∀ j : Nat, j < 194 → (lgPut S.disk S.log S.k b).2.now[j]? = S.disk.now[j]? := fun j hj => hp.same j (.inl (by omega))
  have hlog := kLog_put (ep := S.epoch) (b := b) hg.d h.log hnx (by omega) hg.en hg.lep (by unfold I64; omega) (by omega) (by rw [← hg.lep, ← hk]; exact hp)
  unfold kApp
  rw [hA]
  refine ⟨⟨?_, h.img, hlog, ?_, kPlay_snoc h.play hb ha, h.ep, ?_, ?_, h.dead⟩, rfl⟩
  · simp only; rw [rootsRd_congr hl hs]; exact h.root
  · simp only; rw [hk, List.length_append]; rfl
  · simp only; rw [rootRd_congr hl (by omega) hs]; exact h.e0
  · simp only; rw [rootRd_congr hl (by omega) hs]; exact h.e1

theorem sSize_lb {s : Stt} (hr : sRight s = true) (hs : sSize s ≤ 6000) : LB 300 s := by
  refine ⟨(sRight_all hr).1, fun o ho => ?_⟩
  have h1 := sum_ge (l := s.objs) (f := oSize) (fun o _ => by have := oSize_nn o; omega) o ho
  have h2 := oSize_nn o
  unfold sSize at hs
  exact ⟨by omega, by omega, by omega⟩
/-- .. behind a new image -/
theorem KH.renew {N : Int} {S : KSt} (hg : KG N S) (hN : N < 1000000000000) (hr : sRight S.st = true) (h0 : (rootRd S.disk 0 96 0).1 ≤ S.epoch) (h1 : (rootRd S.disk 0 96 1).1 ≤ S.epoch) : KH S.st [] (kRenew S).2 := by
  have he := hg.ep
  have hl := image_le hg.st
  obtain ⟨g1, g2, g3, g4⟩ := hg.d.root (ep := S.epoch + 1) (l := image S.st) (by omega) (by omega)
  obtain ⟨r1, r2, r3⟩ := hg.d.root2 (ep := S.epoch + 1) (l := image S.st) (by omega) (by omega) (by omega) (by omega) (by omega)
  have hrd : dRead (rootsWr S.disk 0 96 (S.epoch + 1) (image S.st)).2 194 = dRead S.disk 194 := dRead_congr (g3 194 (by omega))
  have hk := kLog_new g2 (ep := S.epoch + 1) (fun n => by rw [hrd]; exact hg.new _ n (by omega) (by omega))
  have hR : kRenew S = (0, { S with disk := (rootsWr S.disk 0 96 (S.epoch + 1) (image S.st)).2, epoch := S.epoch + 1, log := ⟨194, 354, 194, S.epoch + 1, false⟩, k := 0 }) := by
    unfold kRenew
    simp only
    rw [if_neg (by rw [g1]; decide), hk]
    rfl
  rw [hR]
  have lb := sSize_lb hr hg.st
  exact ⟨r1, rdImage_enc hr ⟨lb.objs, fun o ho => (lb.ob o ho).mono (by omega)⟩, hk, rfl, rfl, by simp only; omega, r2, r3, hg.dead⟩
end Go.Pst

namespace Go.Pst
open Go Go.Proofs

theorem sDos_right {s : Stt} {l : List Eff} (h : (sDos s l).1 = 0) : ∀ e ∈ l, eRight e = true := by
  induction l generalizing s with
  | nil => intro e he; cases he
  | cons e l ih =>
    unfold sDos at h
    split at h
    · rename_i h1
      intro x hx
      rcases List.mem_cons.1 hx with rfl | hx
      · cases hr : eRight x with
        | true => rfl
        | false =>
          unfold sDo at h1
          rw [hr, if_pos rfl] at h1
          simp at h1
      · exact ih h x hx
    · rename_i h1; exact absurd h h1

theorem KH.append {N : Int} {base : Stt} {R : List (List UInt8)} {S : KSt} (h : KH base R S) (hg : KG N S) (hN : N < 1000000000000) {b : List UInt8} (hb0 : 0 < b.length) (hbl : b.length ≤ 10176) {es : List Eff} {s' : Stt} (hb : rdEffs b = some es) (ha : sApply S.st es = (0, s')) (hr : sRight S.st = true) :
    ∃ base' R', KH base' R' { (kAppend S b).2 with st := s' } ∧ (((kAppend S b).2.epoch = S.epoch ∧ (kAppend S b).2.log.nx = S.log.nx + (1 + nd b.length)) ∨ (kAppend S b).2.epoch = S.epoch + 1) := by
  have hn := hg.nx
  have hnd : nd b.length ≤ 159 := by unfold nd; omega
  unfold kAppend
  split
  · rename_i hrm
    rw [if_neg (by omega)]
    obtain ⟨r1, r2, r3, r4, r5, r6, r7⟩ := kRenew_good hg hN
    rw [if_neg (by rw [r1]; decide)]
    have hK := KH.renew hg hN hr h.e0 h.e1
    have ha' : sApply (kRenew S).2.st es = (0, s') := by rw [r3]; exact ha
    obtain ⟨k1, k2⟩ := hK.app r2 (by omega) (b := b) (by rw [r4]; omega) hb ha'
    obtain ⟨a1, a2, a3, a4, a5⟩ := kApp_good r2 (by omega) (b := b) (by rw [r4]; omega)
    exact ⟨_, _, k1, .inr (by rw [a5, r7])⟩
  · rename_i hrm
    unfold lgRoom at hrm
    rw [hg.en] at hrm
    have hle : S.log.nx + 1 + nd b.length ≤ 354 := by
      have : nd b.length * 64 < b.length + 64 := by unfold nd; omega
      omega
    obtain ⟨k1, k2⟩ := h.app hg (by omega) (b := b) hle hb ha
    obtain ⟨a1, a2, a3, a4, a5⟩ := kApp_good hg (by omega) (b := b) hle
    exact ⟨_, _, k1, .inl ⟨a5, k2⟩⟩

theorem KH.do_ {N : Int} {base : Stt} {R : List (List UInt8)} {S : KSt} (h : KH base R S) (hg : KG N S) (hN : N < 1000000000000) {l : List Eff} (hne : l.length ≠ 0) (hl : (encEs l).length ≤ 10176) (hll : l.length ≤ 10000) (ha : (sApply S.st l).1 = 0) (hs : sSize (sApply S.st l).2 ≤ 6000) :
    ∃ base' R', KH base' R' (kDo S l).2 ∧ (((kDo S l).2.epoch = S.epoch ∧ (kDo S l).2.log.nx = S.log.nx + (1 + nd (encEs l).length)) ∨ (kDo S l).2.epoch = S.epoch + 1) := by
  have hp := encEs_pos l
  obtain ⟨a1, a2, a3, a4⟩ := kAppend_good hg hN (b := encEs l) (by omega) hl
  have hok := sApply_ok ha
  have hb := rdEffs_enc (sDos_right hok.2.1) hll
  have ha' : sApply S.st l = (0, (sApply S.st l).2) := by rw [← ha]
  obtain ⟨base', R', k1, k2⟩ := h.append hg hN (by omega) hl hb ha' hok.1
  have e : kDo S l = (0, { (kAppend S (encEs l)).2 with dead := false, st := (sApply S.st l).2 }) := by
    unfold kDo
    rw [if_neg (by rw [hg.dead]; decide), if_neg (by rw [ha]; decide), if_neg (by omega), if_neg hne, a1]
    rfl
  rw [e]
  refine ⟨base', R', ?_, k2⟩
  have hd := k1.dead
  generalize (kAppend S (encEs l)).2 = X at k1 hd
  obtain ⟨x1, x2, x3, x4, x5, x6⟩ := X
  simp only at hd
  subst hd
  exact k1

/-- a store that is read back as it is, and that nothing is done to when it is opened -/
theorem KH.open_ {base : Stt} {R : List (List UInt8)} {S : KSt} (h : KH base R S) (hl : S.disk.now.length = 354) (hc : (sClaims S.st).length = 0) : kOpen S.disk = (0, S.disk, some S) := by
  have he := h.ep
  unfold kOpen
  rw [if_neg (by omega), h.read]
  simp only
  rw [if_pos ⟨hc, by omega⟩]
end Go.Pst

namespace Go.Pst
open Go Go.Proofs

theorem S0_kh : KH s1 [] S0 := by
  rw [S0_eq, kNew_eq]
  have hz : ∀ w : Int, 0 ≤ w ∧ w < 354 → (rootRd (dNew 354) 0 96 w).1 = 0 := fun w hw => by
    have hd : dRead (dNew 354) (0 + w) = zsec := new_read _ (by omega)
    unfold rootRd
    simp only
    have hok : ∀ e n, rootOk (dNew 354) 0 96 w e n = false := fun e n => by
      unfold rootOk
      rw [hd]
      have : ¬ zsec = rootB e n := by
        intro h
        have h1 := congrArg (fun l => l.take 1) h
        have : (rootB e n).take 1 = [4] := by
          unfold rootB fill
          rw [List.append_assoc, List.append_assoc]
          rfl
        rw [this] at h1
        revert h1; decide
      simp [this]
    rw [hok, if_neg (by decide)]
  exact KH.renew kZero_good (by omega) (by decide) (by rw [show kZero.disk = dNew 354 from rfl, hz 0 (by omega)]; decide) (by rw [show kZero.disk = dNew 354 from rfl, hz 1 (by omega)]; decide)

def keyL (i : Nat) : ByteArray := t10.extract (i % 10) (i % 10 + 1)
theorem keyL_data : ∀ i < 10, (t10.extract i (i + 1)).data.toList = [UInt8.ofNat (97 + i)] := by decide +kernel
theorem keyL_list (i : Nat) : (keyL i).data.toList = [UInt8.ofNat (97 + i % 10)] := keyL_data _ (Nat.mod_lt _ (by omega))
theorem keyL_size (i : Nat) : (keyL i).size = 1 := by
  have := congrArg List.length (keyL_list i)
  simpa using this
theorem keyL_mod (i : Nat) : keyL (i % 10) = keyL i := by unfold keyL; rw [Nat.mod_mod]
theorem keyL_lt {i j : Nat} (h : j % 10 < i % 10) : kcmp (keyL j) (keyL i) = -1 := by
  have h1 := Nat.mod_lt i (show 0 < 10 by omega)
  unfold kcmp
  rw [if_pos]
  unfold ltB
  rw [ByteArray.toList_eq, ByteArray.toList_eq, keyL_list, keyL_list]
  simp only [Op.bytesLess, Bool.and_false, Bool.or_false, decide_eq_true_eq, UInt8.lt_iff_toNat_lt, UInt8.toNat_ofNat']
  omega
theorem kcmp_self (k : ByteArray) : kcmp k k = 0 := by
  have hl : ltB k k = false := by
    unfold ltB
    generalize k.toList = l
    induction l with
    | nil => rfl
    | cons x l ih => simp [Op.bytesLess, ih]
  unfold kcmp
  rw [hl]; simp
def rowL (n i : Nat) : Row := ⟨keyL i, valF n⟩
def rowsL (n i : Nat) : List Row := (List.range (min i 10)).map (rowL n)
theorem rowsL_get {n i j : Nat} {x : Row} (h : (rowsL n i)[j]? = some x) : x = rowL n j ∧ j < min i 10 := by
  unfold rowsL at h
  rw [List.getElem?_map] at h
  cases hr : (List.range (min i 10))[j]? with
  | none => rw [hr] at h; cases h
  | some k =>
    rw [hr] at h
    obtain ⟨h1, h2⟩ := List.getElem?_eq_some_iff.1 hr
    simp at h1 h2 h
    subst h2
    exact ⟨h.symm, by omega⟩
theorem rowsL_len (n i : Nat) : (rowsL n i).length = min i 10 := by simp [rowsL]
theorem rowsL_put {n i : Nat} : rPut (rowsL n i) (rowL n i) = rowsL n (i + 1) := by
  rcases Nat.lt_or_ge i 10 with hi | hi
  · have hf : rFind (rowsL n i) (keyL i) = (i, false) := by
      rw [rFind_none fun j y hy => by
        obtain ⟨rfl, hj⟩ := rowsL_get hy
        show kcmp (keyL j) (keyL i) < 0
        rw [keyL_lt (by omega)]; decide, rowsL_len, Nat.min_eq_left (by omega)]
    unfold rPut
    rw [show (rowL n i).key = keyL i from rfl, hf]
    simp only [Bool.false_eq_true, if_false]
    rw [List.take_of_length_le (by rw [rowsL_len]; omega), List.drop_of_length_le (by rw [rowsL_len]; omega)]
    unfold rowsL
    rw [Nat.min_eq_left (by omega), Nat.min_eq_left (by omega), List.range_succ]
    simp
  · have hm := Nat.mod_lt i (show 0 < 10 by omega)
    have hx : (rowsL n i)[i % 10]? = some (rowL n (i % 10)) := by
      unfold rowsL
      rw [List.getElem?_map, List.getElem?_range (by omega)]; rfl
    have hself : kcmp (rowL n (i % 10)).key (keyL i) = 0 := by
      show kcmp (keyL (i % 10)) (keyL i) = 0
      rw [keyL_mod]; exact kcmp_self _
    have hf : rFind (rowsL n i) (keyL i) = (i % 10, true) := by
      rw [rFind_at hx (by rw [hself]; decide) fun j y hj hy => by
        obtain ⟨rfl, hj'⟩ := rowsL_get hy
        show kcmp (keyL j) (keyL i) < 0
        rw [keyL_lt (by rw [Nat.mod_eq_of_lt (by omega)]; exact hj)]; decide, hself]
      rfl
    unfold rPut
    rw [show (rowL n i).key = keyL i from rfl, hf]
    simp only [if_true]
    have e1 : rowL n i = rowL n (i % 10) := by unfold rowL; rw [keyL_mod]
    rw [e1]
    have e2 : rowsL n (i + 1) = rowsL n i := by unfold rowsL; rw [Nat.min_eq_right (by omega), Nat.min_eq_right (by omega)]
    rw [e2]
    apply List.ext_getElem?
    intro j
    rw [List.getElem?_set]
    split
    · rename_i hij
      subst hij
      rw [if_pos (by rw [rowsL_len]; omega), hx]
    · rfl
def stL (n i : Nat) : Stt := ⟨(i : Int) + 1, [oT (rowsL n i)]⟩
theorem stL_right {n i : Nat} (hn : n ≤ 100) (hi : i ≤ 1000) : sRight (stL n i) = true := by
  have h1 : rRises (rowsL n i) = true := by
    rw [rRises_alt]
    intro j a b ha hb
    obtain ⟨rfl, _⟩ := rowsL_get ha
    obtain ⟨rfl, hj⟩ := rowsL_get hb
    show kcmp (keyL j) (keyL (j + 1)) < 0
    rw [keyL_lt (by omega)]; decide
  have h2 : (rowsL n i).all rRight = true := by
    rw [List.all_eq_true]
    intro x hx
    obtain ⟨j, hj⟩ := List.getElem?_of_mem hx
    obtain ⟨rfl, hj⟩ := rowsL_get hj
    show (kRight (keyL j) && decide ((valF n).size ≤ 100)) = true
    unfold kRight
    rw [keyL_size, valF_size]
    simp [hn]
  have h3 : oRight (oT (rowsL n i)) = true := by
    unfold oRight
    rw [if_pos (show (oT (rowsL n i)).kind = 1 from rfl)]
    show (oRight0 tT 1 0 && (true && true && rRises (rowsL n i) && (rowsL n i).all rRight)) = true
    rw [h1, h2]; rfl
  have h4 : decide (1 ≤ (stL n i).next ∧ (stL n i).next ≤ 1099511627776 ∧ (stL n i).objs.length ≤ 20) = true := by
    rw [decide_eq_true_eq]
    show 1 ≤ (i : Int) + 1 ∧ (i : Int) + 1 ≤ 1099511627776 ∧ 1 ≤ 20
    omega
  unfold sRight
  rw [h4]
  show (true && (oRight (oT (rowsL n i)) && true && true) && true) = true
  rw [h3]; rfl
def eL (n i : Nat) : Eff := ⟨2, tT, keyL i, valF n, 0, 0, false, m0⟩
def eX (i : Nat) : Eff := ⟨8, e0, e0, e0, (i : Int) + 2, 0, false, m0⟩
theorem eL_right {n i : Nat} (hn : n ≤ 100) : eRight (eL n i) = true := by
  have h1 : eL n i = eNamed (eL n i) := rfl
  unfold eRight
  rw [decide_eq_true h1]
  show (nRight tT && (kRight (keyL i) && decide ((valF n).size ≤ 100))) = true
  unfold kRight
  rw [keyL_size, valF_size]
  simp [hn]; rfl
theorem eX_right {i : Nat} (hi : i ≤ 1000) : eRight (eX i) = true := by
  have h1 : eX i = eNamed (eX i) := rfl
  unfold eRight
  rw [decide_eq_true h1]
  show idRight ((i : Int) + 2) = true
  unfold idRight
  rw [decide_eq_true_eq]; omega
theorem stL_apply {n i : Nat} (hn : n ≤ 100) (hi : i ≤ 500) : sApply (stL n i) [eL n i, eX i] = (0, stL n (i + 1)) := by
  have hd : sDo (stL n i) (eL n i) = (0, ⟨(i : Int) + 1, [oT (rowsL n (i + 1))]⟩) := by
    unfold sDo
    rw [eL_right hn, if_neg (by decide), if_neg (show ¬ (eL n i).kind = 1 from (by decide : ¬ (2 : Int) = 1)), if_neg (show ¬ (eL n i).kind = 8 from (by decide : ¬ (2 : Int) = 8))]
    have hf : sFind (stL n i).objs (eL n i).obj = 0 := rfl
    rw [hf, if_neg (by decide)]
    have hg : (stL n i).objs.getD (0 : Int).toNat o0 = oT (rowsL n i) := rfl
    simp only [hg]
    rw [if_neg (show ¬ decide ((eL n i).kind = 2 ∨ (eL n i).kind = 3) ≠ decide ((oT (rowsL n i)).kind = 1) from (by decide : ¬ decide ((2 : Int) = 2 ∨ (2 : Int) = 3) ≠ decide ((1 : Int) = 1)))]
    have ht : oTable (oT (rowsL n i)) (eL n i) = (0, oT (rPut (rowsL n i) (rowL n i))) := rfl
    have hk : decide ((eL n i).kind = 2 ∨ (eL n i).kind = 3) = true := rfl
    rw [hk, if_pos rfl, ht, rowsL_put]
    rfl
  have hx : sDo ⟨(i : Int) + 1, [oT (rowsL n (i + 1))]⟩ (eX i) = (0, stL n (i + 1)) := by
    unfold sDo
    rw [eX_right (by omega), if_neg (by decide), if_neg (show ¬ (eX i).kind = 1 from (by decide : ¬ (8 : Int) = 1)), if_pos (show (eX i).kind = 8 from rfl)]
    rw [if_neg (show ¬ (eX i).n < (⟨(i : Int) + 1, [oT (rowsL n (i + 1))]⟩ : Stt).next from (by show ¬ (i : Int) + 2 < (i : Int) + 1; omega))]
    show (0, (⟨(i : Int) + 2, [oT (rowsL n (i + 1))]⟩ : Stt)) = _
    unfold stL
    rw [show ((i : Int) + 2) = ((i + 1 : Nat) : Int) + 1 from by omega]
  unfold sApply
  rw [stL_right hn (by omega), if_neg (by decide)]
  have hs : sDos (stL n i) [eL n i, eX i] = (0, stL n (i + 1)) := by
    unfold sDos
    rw [hd]
    simp only [if_true]
    unfold sDos
    rw [hx]
    rfl
  rw [hs]; rfl
theorem stL_size {n i : Nat} (hn : n ≤ 100) : sSize (stL n i) ≤ 6000 := by
  have h : ∀ m, ((((List.range m).map (rowL n)).map rSize).sum) = (m : Int) * (21 + n) := by
    intro m
    induction m with
    | zero => simp
    | succ m ih =>
      rw [List.range_succ, List.map_append, List.map_append, List.sum_append, ih]
      simp only [List.map_cons, List.map_nil, List.sum_cons, List.sum_nil, rSize, rowL, keyL_size, valF_size]
      rw [Int.natCast_add, Int.add_mul]; omega
  have h2 := h (min i 10)
  have h3 : ((min i 10 : Nat) : Int) * (21 + n) ≤ 10 * 121 := Int.mul_le_mul (by omega) (by omega) (by omega) (by omega)
  show 16 + ((50 + 1 + ((rowsL n i).map rSize).sum + 0) + 0) ≤ 6000
  unfold rowsL
  rw [h2]; omega
theorem encL_len {n i : Nat} : (encEs [eL n i, eX i]).length = 130 + min n 65535 := by
  unfold encEs
  simp only [List.flatMap_cons, List.flatMap_nil, List.append_nil, List.length_append, encI_len, encE, encM, encF_len, encT_len]
  have e1 : (eL n i).obj.size = 1 := rfl
  have e2 : (eL n i).key.size = 1 := keyL_size i
  have e3 : (eL n i).val.size = n := valF_size n
  have e4 : (eL n i).msg = m0 := rfl
  have e5 : (eX i).obj = e0 := rfl
  have e6 : (eX i).key = e0 := rfl
  have e7 : (eX i).val = e0 := rfl
  have e8 : (eX i).msg = m0 := rfl
  have e9 : m0.corr = e0 := rfl
  have ea : m0.body = e0 := rfl
  have eb := e0_sz
  rw [e1, e2, e3, e4, e5, e6, e7, e8, e9, ea, eb]
  omega

/-- where the store is behind i rounds -/
structure KL (n i : Nat) (S : KSt) : Prop where
  g : KG (2 + i) S
  st : S.st = stL n i
  ok : KOk (12294 + 8196 * i) S
  h : ∃ base R, KH base R S
  nx : S.epoch = 1 → 194 + 4 * (i : Int) ≤ S.log.nx
theorem KL.zero (n : Nat) : KL n 0 S1 := by
  obtain ⟨h1, h2, h3, h4⟩ := S0_good
  obtain ⟨f1, f2, f3, f4⟩ := S1_good
  refine ⟨f2, f3, f4, ?_, fun _ => by have := f2.nx; omega⟩
  have ha : sApply S0.st [eMk] = (0, stT []) := by rw [h2]; exact sApply_mk
  obtain ⟨base, R, k1, _⟩ := S0_kh.do_ h1 (by omega) (l := [eMk]) (by simp) encMk_len (by simp) (by rw [ha]) (by rw [ha]; decide)
  rw [S1_eq]
  exact ⟨base, R, k1⟩
theorem KL.next {n i : Nat} {S : KSt} (h : KL n i S) (hi : i < 200) (hn : n ≤ 100) : (kDo S [eL n i, eX i]).1 = 0 ∧ KL n (i + 1) (kDo S [eL n i, eX i]).2 := by
  have ha : sApply S.st [eL n i, eX i] = (0, stL n (i + 1)) := by rw [h.st]; exact stL_apply hn (by omega)
  have hs := stL_size (n := n) (i := i + 1) hn
  have hl := encL_len (n := n) (i := i)
  obtain ⟨a1, a2, a3, _⟩ := kDo_good h.g (by omega) (l := [eL n i, eX i]) (by simp) (by omega) (by rw [ha]) (by rw [ha]; exact hs)
  obtain ⟨base, R, hk⟩ := h.h
  obtain ⟨base', R', k1, k2⟩ := hk.do_ h.g (by omega) (l := [eL n i, eX i]) (by simp) (by omega) (by simp) (by rw [ha]) (by rw [ha]; exact hs)
  refine ⟨a1, ⟨a2.mono (by omega), by rw [a3, ha], ?_, ⟨base', R', k1⟩, fun he => ?_⟩⟩
  · have := kDo_ok h.ok [eL n i, eX i]
    rw [show 12294 + 8196 * (i + 1) = 12294 + 8196 * i + 8196 from by omega]; exact this
  · rcases k2 with ⟨e1, e2⟩ | e1
    · have := h.nx (by omega)
      have hnd : 3 ≤ nd (encEs [eL n i, eX i]).length := by rw [hl]; unfold nd; omega
      rw [e2]; omega
    · have := hk.ep; omega
theorem KL.last {n i : Nat} {S : KSt} (h : KL n i S) : kOpen S.disk = (0, S.disk, some S) ∧ 1 ≤ S.epoch ∧ (50 ≤ i → 1 < S.epoch) := by
  obtain ⟨base, R, hk⟩ := h.h
  have h1 := hk.ep
  refine ⟨hk.open_ h.g.d.len (by rw [h.st]; rfl), h1, fun h50 => ?_⟩
  rcases Int.lt_or_le 1 S.epoch with h2 | h2
  · exact h2
  · have := h.nx (by omega)
    have := h.g.nx
    omega
end Go.Pst

namespace Go.Pst
open Go Go.Proofs

theorem effs2 {w : World} {v : Value} {e e' : Eff} (h : Own w v 35 13 2 (cEff e ++ cEff e')) : EffsR w v [e, e'] := by
  show Sl _ _ _ _ _ _
  have := h.sl
  simpa using this

set_option maxRecDepth 8000 in
/-- KeepLong -/
theorem lw_long (w : World) (rounds size : Int) : Does Tryz.prog 3 [.int .i64 rounds, .int .i64 size] w fun v w' => v = .bool true ∧ Ext w w' := by
  obtain ⟨g1, g2, g3, g4⟩ := S0_good
  obtain ⟨f1, f2, f3, f4⟩ := S1_good
  refine does1 TryzT_ok Tryz.func3 Tryz.call3 Tryz.ntmps3 Tryz.results3 ?_
  conv => whnf
  refine cl (lw_alive w) ?_
  rintro v w1 ⟨rfl, X1⟩
  conv => whnf
  refine Cmp.dec (fun k1 => ?_) (fun k1 => ?_)
  · conv => whnf
    exact ⟨rfl, X1⟩
  conv => whnf
  refine Cmp.dec (fun k2 => ?_) (fun k2 => ?_)
  · conv => whnf
    exact ⟨rfl, X1⟩
  conv => whnf
  refine Cmp.dec (fun k3 => ?_) (fun k3 => ?_)
  · conv => whnf
    exact ⟨rfl, X1⟩
  conv => whnf
  refine Cmp.dec (fun k4 => ?_) (fun k4 => ?_)
  · conv => whnf
    exact ⟨rfl, X1⟩
  obtain ⟨n, rfl⟩ : ∃ n : Nat, size = n := ⟨size.toNat, by omega⟩
  obtain ⟨m, rfl⟩ : ∃ m : Nat, rounds = m := ⟨rounds.toNat, by omega⟩
  have hn : n ≤ 100 := by omega
  have hm : m ≤ 200 := by omega
  have hm1 : 1 ≤ m := by omega
  conv => whnf
  refine cl (kp_need w1) ?_
  rintro v w2 ⟨rfl, rfl⟩
  conv => whnf
  refine cl (disk_new w2 354) ?_
  rintro v w3 ⟨d, rfl, hd, hx3⟩
  have X3 := X1.trans hx3
  conv => whnf
  refine cl (lw_open (B0 := w2.heap.size) (.inr ⟨_, hx3.size, hd⟩) hx3.size hd) ?_
  rintro v w4 ⟨p, rfl, h4, m4⟩
  have hB : w.heap.size ≤ w2.heap.size := X1.size
  have X4 : Ext w w4 := X3.thenM m4 hB
  have z4 : w2.heap.size ≤ w4.heap.size := Nat.le_trans hx3.size m4.size
  conv => whnf
  refine cl (lw_num w4 0) ?_
  rintro v w5 ⟨rfl, rfl⟩
  conv => whnf
  refine Cmp.no (by simp) ?_
  conv => whnf
  refine bs (sz := 13) TryzT_ok ?_
  conv => whnf
  refine ⟨rfl, fun b6 w6 ho6 hs6 hx6 => ?_⟩
  have X6 := X4.trans hx6
  conv => whnf
  refine cl (kp_do (h4.ext hx6) (Nat.le_trans z4 hx6.size) g4 (by omega) (effs1 (e := eMk) ho6) (by simp)) ?_
  rintro v w7 ⟨rfl, h7, m7⟩
  have X7 : Ext w w7 := X6.thenM m7 hB
  have z7 : w2.heap.size ≤ w7.heap.size := Nat.le_trans (Nat.le_trans z4 hx6.size) m7.size
  rw [← S1_eq] at h7
  rw [f1]
  conv => whnf
  refine cl (lw_num w7 0) ?_
  rintro v w8 ⟨rfl, rfl⟩
  conv => whnf
  refine Cmp.no (by simp) ?_
  conv => whnf
  refine mk (sz := 1) (n := (n : Int)) TryzT_ok (by omega) (fun b12 w12 ho12 hs12 hx12 => ?_)
  replace h7 := h7.ext hx12
  replace X7 := X7.trans hx12
  replace z7 := Nat.le_trans z7 hx12.size
  rw [Int.toNat_natCast, zeroB] at ho12
  have hob12 : Sl w12 (.slice (some ⟨b12, 0, none⟩) n n) 5 1 (List.replicate n (0 : UInt8)).length (B (List.replicate n 0)) := by rw [List.length_replicate]; exact ho12.sl
  conv => whnf
  refine bts (l := List.replicate n 0) TryzT_ok hob12 ?_
  conv => whnf
  refine Cw.loopD TryzT_ok (ι := Nat) (fun i e w' => i ≤ m ∧ (∃ g', e = fr g' [(0, .int .i64 (m : Int)), (6, .pointer (some ⟨d, 0, none⟩)), (7, .pointer (some ⟨p, 0, none⟩)), (9, .string (valF n)), (10, .int .i64 (i : Int))]) ∧ (∃ S, KpR w2.heap.size w' p d S ∧ KL n i S) ∧ Ext w w' ∧ w2.heap.size ≤ w'.heap.size)
    (fun i => m - i) 0 ⟨by omega, mkfr _ ⟨rfl, rfl, rfl, rfl, rfl, trivial⟩, ⟨S1, h7, KL.zero n⟩, X7, z7⟩ ?_
  clear h7 X7 z7 h4 X4 z4 X6 hd X3
  rintro i e w8 ⟨hi, ⟨g', rfl⟩, ⟨S, h8, hF⟩, X8, z8⟩
  conv => whnf
  refine Cmp.dec (fun hlt => ?_) (fun hlt => ?_)
  · have hlt : i < m := by omega
    conv => whnf
    refine rem (a := (i : Int)) (b := 10) (by omega) ?_
    conv => whnf
    refine rem (a := (i : Int)) (b := 10) (by omega) ?_
    conv => whnf
    refine Ar.i (by omega) ?_
    have r1 : (i : Int) % 10 = ((i % 10 : Nat) : Int) := by omega
    have r2 : (i : Int) % 10 + 1 = ((i % 10 + 1 : Nat) : Int) := by omega
    conv => whnf
    refine slT (s := t10) (l := i % 10) (h := i % 10 + 1) TryzT_ok ?_ ?_ (hlo := ?_) (hhi := ?_)
    · exact ⟨by omega, by show _ ≤ 10; omega⟩
    rotate_left
    · show Value.int _ _ = _
      rw [r1]
    · show Value.int _ _ = _
      rw [r2]
    have hkey : t10.extract (i % 10) (i % 10 + 1) = keyL i := rfl
    rw [hkey]
    conv => whnf
    refine Ar.i (by omega) ?_
    conv => whnf
    refine bs (sz := 13) TryzT_ok ?_
    conv => whnf
    refine ⟨rfl, fun b13 w13 ho13 hs13 hx13 => ?_⟩
    replace X8 := X8.trans hx13
    have z13 : w2.heap.size ≤ w13.heap.size := Nat.le_trans z8 hx13.size
    obtain ⟨q1, q2⟩ := hF.next (by omega) hn
    conv => whnf
    refine cl (kp_do (h8.ext hx13) z13 hF.ok (by omega) (effs2 (e := eL n i) (e' := eX i) ho13) (by simp)) ?_
    rintro v w14 ⟨rfl, h14, m14⟩
    replace X8 := X8.thenM m14 hB
    have z14 := Nat.le_trans z13 m14.size
    rw [q1]
    conv => whnf
    refine cl (lw_num w14 0) ?_
    rintro v w15 ⟨rfl, rfl⟩
    conv => whnf
    refine Cmp.no (by simp) ?_
    conv => whnf
    refine Ar.i (by omega) ?_
    conv => whnf
    exact ⟨i + 1, ⟨by omega, mkfr _ ⟨rfl, rfl, rfl, rfl, rfl, trivial⟩, ⟨_, h14, q2⟩, X8, z14⟩, by omega⟩
  have him : i = m := by omega
  subst him
  obtain ⟨o1, o2, o3⟩ := hF.last
  have hdk : DiskR (fun b => w2.heap.size ≤ b) w8 d S.disk := by
    obtain ⟨lp, a, c, _, ⟨_, _, _, _, _, hdd, _⟩, _⟩ := h8
    exact hdd.mono fun b _ h => h.1
  have hkr : kRead S.disk = some S := by obtain ⟨base, R, hk⟩ := hF.h; exact hk.read
  have hop := kp_open hdk z8 hF.ok.disk (by omega) (fun S' h => by
    rw [hkr] at h; cases h
    have := hF.g.ep
    omega)
  rw [o1, hkr] at hop
  simp only at hop
  have hst := hF.st
  have hlen : (rowsL n i).length = min i 10 := rowsL_len n i
  conv => whnf
  refine Cmp.dec (fun k5 => ?_) (fun k5 => ?_)
  · have hmin : min i 10 = 10 := by omega
    conv => whnf
    refine cl (hop) ?_
    rintro v w9 ⟨⟨p9, rfl, h9⟩, _, hx9⟩
    have hx9 := hx9 trivial
    replace h8 := h8.ext hx9
    replace X8 := X8.trans hx9
    conv => whnf
    refine cl (lw_num w9 0) ?_
    rintro v w10 ⟨rfl, rfl⟩
    conv => whnf
    refine Cmp.yes (by simp) ?_
    conv => whnf
    refine cl (kp_state h8 hF.ok.st) ?_
    rintro v w11 ⟨c11, rfl, h11, hx11⟩
    replace h9 := h9.ext hx11
    replace h8 := h8.ext hx11
    replace X8 := X8.trans hx11
    conv => whnf
    refine cl (kp_state h9 hF.ok.st) ?_
    rintro v w12' ⟨c12, rfl, h12, hx12'⟩
    replace h9 := h9.ext hx12'
    replace h8 := h8.ext hx12'
    replace X8 := X8.trans hx12'
    conv => whnf
    refine cl (same_state (h11.ext hx12') h12 (by omega) hF.ok.st hF.ok.st) ?_
    rintro v w13 ⟨rfl, hx13⟩
    rw [decide_eq_true rfl]
    replace h9 := h9.ext hx13
    replace h8 := h8.ext hx13
    replace X8 := X8.trans hx13
    have hnx : S.st.next = (i : Int) + 1 := by rw [hst]; rfl
    have hol : S.st.objs.length = 1 := by rw [hst]; rfl
    have ho0 : S.st.objs[0]? = some (oT (rowsL n i)) := by rw [hst]; rfl
    conv => whnf
    refine cl (kp_state h9 hF.ok.st) ?_
    rintro v w14 ⟨c14, rfl, ⟨a14, k14, rfl, h14⟩, hx14⟩
    replace h9 := h9.ext hx14
    replace h8 := h8.ext hx14
    replace X8 := X8.trans hx14
    conv => whnf
    refine Ar.i (by omega) ?_
    conv => whnf
    refine Cmp.y hnx ?_
    conv => whnf
    refine cl (kp_state h9 hF.ok.st) ?_
    rintro v w15 ⟨c15, rfl, ⟨a15, k15, rfl, h15⟩, hx15⟩
    replace h9 := h9.ext hx15
    replace h8 := h8.ext hx15
    replace X8 := X8.trans hx15
    conv => whnf
    refine Cmp.y (by rw [hol]; rfl) ?_
    conv => whnf
    refine cl (kp_state h9 hF.ok.st) ?_
    rintro v w16 ⟨c16, rfl, ⟨a16, k16, rfl, h16⟩, hx16⟩
    replace h9 := h9.ext hx16
    replace h8 := h8.ext hx16
    replace X8 := X8.trans hx16
    obtain ⟨b16, of16, kk16, e16⟩ := h16.some (by intro h; rw [h] at hol; cases hol)
    cases e16
    obtain ⟨x1, y1, x2, y2, x3, y3, hcs, hop16⟩ := h16.at_ ho0
    conv => whnf
    refine ia (sz := 6) TryzT_ok ?_ ?_
    · omega
    conv => whnf
    refine OpR.ldC TryzT_ok (hcs 3 _ rfl) ?_
    conv => whnf
    refine Cmp.y ?_ ?_
    · show (((rowsL n i).length : Nat) : Int) = _
      omega
    conv => whnf
    refine cl (kp_epoch h9) ?_
    rintro v w17 ⟨rfl, rfl⟩
    conv => whnf
    refine cl (kp_epoch h8) ?_
    rintro v w18 ⟨rfl, rfl⟩
    conv => whnf
    refine Cmp.y rfl ?_
    conv => whnf
    refine Cmp.dec (fun k6 => ?_) (fun k6 => ?_)
    · conv => whnf
      exact ⟨rfl, X8⟩
    · conv => whnf
      refine cl (kp_epoch h8) ?_
      rintro v w19 ⟨rfl, rfl⟩
      conv => whnf
      refine Cmp.y ?_ ?_
      · have := o3 (by omega)
        omega
      conv => whnf
      exact ⟨rfl, X8⟩
  · have hmin : min i 10 = i := by omega
    conv => whnf
    refine cl (hop) ?_
    rintro v w9 ⟨⟨p9, rfl, h9⟩, _, hx9⟩
    have hx9 := hx9 trivial
    replace h8 := h8.ext hx9
    replace X8 := X8.trans hx9
    conv => whnf
    refine cl (lw_num w9 0) ?_
    rintro v w10 ⟨rfl, rfl⟩
    conv => whnf
    refine Cmp.yes (by simp) ?_
    conv => whnf
    refine cl (kp_state h8 hF.ok.st) ?_
    rintro v w11 ⟨c11, rfl, h11, hx11⟩
    replace h9 := h9.ext hx11
    replace h8 := h8.ext hx11
    replace X8 := X8.trans hx11
    conv => whnf
    refine cl (kp_state h9 hF.ok.st) ?_
    rintro v w12' ⟨c12, rfl, h12, hx12'⟩
    replace h9 := h9.ext hx12'
    replace h8 := h8.ext hx12'
    replace X8 := X8.trans hx12'
    conv => whnf
    refine cl (same_state (h11.ext hx12') h12 (by omega) hF.ok.st hF.ok.st) ?_
    rintro v w13 ⟨rfl, hx13⟩
    rw [decide_eq_true rfl]
    replace h9 := h9.ext hx13
    replace h8 := h8.ext hx13
    replace X8 := X8.trans hx13
    have hnx : S.st.next = (i : Int) + 1 := by rw [hst]; rfl
    have hol : S.st.objs.length = 1 := by rw [hst]; rfl
    have ho0 : S.st.objs[0]? = some (oT (rowsL n i)) := by rw [hst]; rfl
    conv => whnf
    refine cl (kp_state h9 hF.ok.st) ?_
    rintro v w14 ⟨c14, rfl, ⟨a14, k14, rfl, h14⟩, hx14⟩
    replace h9 := h9.ext hx14
    replace h8 := h8.ext hx14
    replace X8 := X8.trans hx14
    conv => whnf
    refine Ar.i (by omega) ?_
    conv => whnf
    refine Cmp.y hnx ?_
    conv => whnf
    refine cl (kp_state h9 hF.ok.st) ?_
    rintro v w15 ⟨c15, rfl, ⟨a15, k15, rfl, h15⟩, hx15⟩
    replace h9 := h9.ext hx15
    replace h8 := h8.ext hx15
    replace X8 := X8.trans hx15
    conv => whnf
    refine Cmp.y (by rw [hol]; rfl) ?_
    conv => whnf
    refine cl (kp_state h9 hF.ok.st) ?_
    rintro v w16 ⟨c16, rfl, ⟨a16, k16, rfl, h16⟩, hx16⟩
    replace h9 := h9.ext hx16
    replace h8 := h8.ext hx16
    replace X8 := X8.trans hx16
    obtain ⟨b16, of16, kk16, e16⟩ := h16.some (by intro h; rw [h] at hol; cases hol)
    cases e16
    obtain ⟨x1, y1, x2, y2, x3, y3, hcs, hop16⟩ := h16.at_ ho0
    conv => whnf
    refine ia (sz := 6) TryzT_ok ?_ ?_
    · omega
    conv => whnf
    refine OpR.ldC TryzT_ok (hcs 3 _ rfl) ?_
    conv => whnf
    refine Cmp.y ?_ ?_
    · show (((rowsL n i).length : Nat) : Int) = _
      omega
    conv => whnf
    refine cl (kp_epoch h9) ?_
    rintro v w17 ⟨rfl, rfl⟩
    conv => whnf
    refine cl (kp_epoch h8) ?_
    rintro v w18 ⟨rfl, rfl⟩
    conv => whnf
    refine Cmp.y rfl ?_
    conv => whnf
    refine Cmp.dec (fun k6 => ?_) (fun k6 => ?_)
    · conv => whnf
      exact ⟨rfl, X8⟩
    · conv => whnf
      refine cl (kp_epoch h8) ?_
      rintro v w19 ⟨rfl, rfl⟩
      conv => whnf
      refine Cmp.y ?_ ?_
      · have := o3 (by omega)
        omega
      conv => whnf
      exact ⟨rfl, X8⟩
end Go.Pst

