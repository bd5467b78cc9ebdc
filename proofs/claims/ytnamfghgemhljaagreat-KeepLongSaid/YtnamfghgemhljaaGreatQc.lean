/- What functions of the program do, second part; no conditions. -/
import Derived.Test.YtnamfghgemhljaaGreatQb
import Derived.Test.YtnamfghgemhljaaGreatQa
namespace Go.Pst
open Go Go.Proofs

/-- slices.Insert of one thing at rows -/
theorem ins_rows {w : World} {a : Option Addr} {c n i : Nat} {vx : Value} {cs new : List Value} (ho : Own w (.slice a n c) 120 2 n cs) (hx : Own w vx 120 2 1 new) (hne : ∀ b, blkOf vx b → ¬ blkOf (.slice a n c) b) (hi : i ≤ n) (hb : n ≤ 100000000000) :
    Does Tryz.prog 221 [.slice a n c, .int .i64 (i : Int), vx] w fun v' w' => ∃ a' c', v' = .slice a' (n + 1) c' ∧ Ins w (.slice a n c) 120 2 (n + 1) (cs.take (i * 2) ++ new ++ cs.drop (i * 2)) (.slice a' (n + 1) c') w' := by
  obtain ⟨bx, ox, cx, rfl⟩ := hx.sl.some (by omega)
  have hl := ho.1
  have hnl := hx.1
  have hils : i * 2 ≤ n * 2 := Nat.mul_le_mul_right _ hi
  have spot := ho.spot
  refine does1 TryzT_ok Tryz.func221 Tryz.call221 Tryz.ntmps221 Tryz.results221 ?_
  conv => whnf
  refine slN (sz := 2) TryzT_ok i n (n - i) _ ho.sl (by omega) rfl (fun a1 c1 _ => ?_)
  conv => whnf
  refine Cmp.n (by omega) ?_
  conv => whnf
  refine Cmp.dec (fun h1 => ?_) (fun h1 => ?_)
  · have h1 : i = n := by omega
    subst h1
    conv => whnf
    refine ap TryzT_ok ho hx.sl (by omega) (fun a4 c4 w4 hap => ?_)
    conv => whnf
    have e1 : cs.take (i * 2) ++ new ++ cs.drop (i * 2) = cs ++ new := by
      rw [List.take_of_length_le (by omega), List.drop_of_length_le (by omega), List.append_nil]
    rw [e1]
    exact ⟨a4, c4, rfl, hap.own, hap.chg, hap.at_⟩
  · have hin : i < n := by omega
    conv => whnf
    refine Ar.i (by omega) ?_
    conv => whnf
    refine cap_ TryzT_ok ?_
    conv => whnf
    refine Cmp.dec (fun h2 => ?_) (fun h2 => ?_)
    · conv => whnf
      refine slP (c := c) TryzT_ok i (by have := ho.sl.cap; omega) spot ?_
      conv => whnf
      refine Ar.i (by omega) ?_
      conv => whnf
      refine Ar.i (by omega) ?_
      have hpre : Sl w (.slice a i c) 120 2 i (cs.take (i * 2)) := by
        rcases ho.sl.2 with ⟨c', hv, h0⟩ | ⟨b, off, c', full, hv, hnc, hbk, hp⟩
        · omega
        · cases hv
          exact ⟨by simp; omega, .inr ⟨b, off, c, full, rfl, by omega, hbk, (List.take_prefix _ _).trans hp⟩⟩
      conv => whnf
      refine apZ (sz := 2) (kq := .i64) (kn := .i64) (m := n + 1 - i) TryzT_ok hpre (by omega) (by omega) (by omega) (fun b4 c4 w4 ho4 hb4 hx4 => ?_) (hx := ?_)
      rotate_left
      · show Value.int _ _ = _
        congr 1; omega
      generalize hZ : (Builtin.zeroCells _ (n + 1 - i)).toList = Z at ho4
      have hlZ : Z.length = (n + 1 - i) * 2 := by rw [← hZ, Array.length_toList, zeroCells_len]; rfl
      have en : i + (n + 1 - i) = n + 1 := by omega
      rw [en] at ho4 ⊢
      obtain ⟨_, rest, hc4, hbk, hrl⟩ := ho4.opens
      conv => whnf
      refine slX (sz := 2) (c := c4) TryzT_ok i (n + 1) (by omega) ?_
      conv => whnf
      refine cp (sz := 2) TryzT_ok hbk ?_ (hx.sl.ext hx4) (fun w5 hb5 hc5 hs5 => ?_)
      · simp only [Nat.zero_add] at *; rw [hrl]; rw [← Nat.add_mul]; exact Nat.mul_le_mul_right _ (by omega)
      have m1 : min 1 (n + 1 - i) = 1 := by omega
      rw [m1, Nat.one_mul, List.take_of_length_le (l := new) (by omega), Nat.zero_add] at hb5
      have hx5 : Ext w w5 := hx4.then hc5 fun b hb => by omega
      conv => whnf
      refine draw TryzT_ok Tryz_mixed (fun w6 hx6 _ => ?_)
      conv => whnf
      refine Ar.i (by omega) ?_
      have e1 : (i : Int) + ((1 : Nat) : Int) = ((i + 1 : Nat) : Int) := by omega
      rw [e1]
      conv => whnf
      refine slX (sz := 2) (c := c4) TryzT_ok (i + 1) (n + 1) (by omega) ?_
      conv => whnf
      refine slN (sz := 2) TryzT_ok i n (n - i) _ (ho.sl.ext (hx5.trans hx6)) (by omega) rfl (fun a7 c7 hs7 => ?_)
      have hlen5 : (splice (List.take (i * 2) cs ++ Z ++ rest) (i * 2) new).length = c4 * 2 := by
        unfold splice
        simp only [List.length_append, List.length_take, List.length_drop] at hrl ⊢
        have : n * 2 + 2 ≤ c4 * 2 := by have := Nat.mul_le_mul_right 2 hc4; rw [Nat.add_mul, Nat.one_mul] at this; exact this
        have : i * 2 + 2 ≤ n * 2 := by have := Nat.mul_le_mul_right 2 (by omega : i + 1 ≤ n); rw [Nat.add_mul, Nat.one_mul] at this; exact this
        omega
      conv => whnf
      refine cp (sz := 2) TryzT_ok (hb5.ext hx6) ?_ hs7 (fun w8 hb8 hc8 hs8 => ?_)
      · rw [hlen5, Nat.zero_add, ← Nat.add_mul]; exact Nat.mul_le_mul_right _ (by omega)
      have m2 : min (n - i) (n + 1 - (i + 1)) = n - i := by omega
      have el : (cs.drop (i * 2)).length = (n - i) * 2 := by rw [List.length_drop, hl, Nat.sub_mul]
      rw [m2, List.take_of_length_le (l := cs.drop (i * 2)) (by omega), List.take_of_length_le (l := cs.drop (i * 2)) (by omega), Nat.zero_add] at hb8
      conv => whnf
      have hx8 : Ext w w8 := (hx5.trans hx6).then hc8 fun b hb => by omega
      refine ⟨_, c4, rfl, ⟨?_, .inr ⟨b4, c4, rest, rfl, hc4, ?_, ?_⟩⟩, hx8.up, fun b hb => .inr ?_⟩
      · simp only [List.length_append, List.length_take, el]
        rw [Nat.add_mul, Nat.sub_mul]; omega
      · have hta : (List.take (i * 2) cs).length = i * 2 := by have := List.length_take (i := i * 2) (l := cs); omega
        have hZ2 : Z.length = 2 + (n - i) * 2 := by rw [hlZ, show n + 1 - i = 1 + (n - i) from by omega, Nat.add_mul, Nat.one_mul]
        have e2 := splice_new (rest := rest) (D := cs.drop (i * 2)) hta (by omega : new.length = 2) hZ2 el
        have hs : (i + 1) * 2 = i * 2 + 2 := by rw [Nat.add_mul, Nat.one_mul]
        rw [hs] at hb8
        rw [← e2]; exact hb8
      · simp only [List.length_append, List.length_take, el] at hrl ⊢
        rw [hlZ] at hrl
        have : (n + 1 - i) * 2 = 2 + (n - i) * 2 := by rw [show n + 1 - i = 1 + (n - i) from by omega, Nat.add_mul, Nat.one_mul]
        rw [hnl]; omega
      · simp at hb
        omega
    · obtain ⟨b, o, c', h3⟩ := ho.sl.some (by omega)
      cases h3
      obtain ⟨ho0, rest, hc4, hbk, hrl⟩ := ho.opens
      subst ho0
      obtain ⟨hox, restx, hcx, hbkx, hrlx⟩ := hx.opens
      subst hox
      have hcn : n + 1 ≤ c := by omega
      have hrest : 2 ≤ rest.length := by
        rw [List.length_append, hl] at hrl
        have := Nat.mul_le_mul_right 2 hcn
        rw [Nat.add_mul, Nat.one_mul] at this
        omega
      have hbx : bx ≠ b := fun e => hne bx (by simp) (by simp [e])
      conv => whnf
      refine Ar.i (by omega) ?_
      have en : ((n : Int) + ((1 : Nat) : Int)) = ((n + 1 : Nat) : Int) := by omega
      rw [en]
      conv => whnf
      refine slP (c := c) TryzT_ok (n + 1) (by omega) spot ?_
      conv => whnf
      refine Ar.i (by omega) ?_
      have e1 : (i : Int) + ((1 : Nat) : Int) = ((i + 1 : Nat) : Int) := by omega
      rw [e1]
      by_cases hcl : i + 1 < c
      case neg => omega
      conv => whnf
      refine slX (sz := 2) (c := c) TryzT_ok (i + 1) (n + 1) (by omega) ?_
      have hov : (callFunc 230 #[.slice (some ⟨bx, 0, none⟩) 1 cx, .slice (some ⟨b, 0 + (i + 1) * 2, none⟩) (n + 1 - (i + 1)) (c - (i + 1))]).run Tryz.prog w = .ok (.value (.bool false)) w := by
        rw [run_callFunc_extern Tryz.func230 (by kernel_rfl) (by kernel_rfl) (by kernel_rfl) (e := Extern.SlicesOverlaps.overlaps #[42, 42] #[4]) (by kernel_rfl),
          Lib.run_overlaps_apart w 42 4 120 (TryzT_ok.get (t := 42) rfl).und 2 (fun w => run_size (TryzT_ok.get (t := 120) rfl).info w) ⟨bx, 0, none⟩ ⟨b, 0 + (i + 1) * 2, none⟩ 1 cx _ _ hbx _ _ _ _ hbkx.shape hbk.shape (by rw [hrl]; omega) (hbkx.frozen _ _) (hbkx.frozen _ _)]
        rfl
      conv => whnf
      refine clx hov ?_
      conv => whnf
      refine draw TryzT_ok Tryz_mixed (fun w5 hx5 _ => ?_)
      conv => whnf
      refine Ar.i (by omega) ?_
      rw [e1]
      conv => whnf
      refine slX (sz := 2) (c := c) TryzT_ok (i + 1) (n + 1) (by omega) ?_
      conv => whnf
      refine slX (sz := 2) (c := c) TryzT_ok i (n + 1) (by omega) ?_
      have hsi : Sl w5 (.slice (some ⟨b, 0 + i * 2, none⟩) (n + 1 - i) (c - i)) 120 2 (n + 1 - i) (((cs ++ rest).drop (i * 2)).take ((n + 1 - i) * 2)) := by
        refine ⟨?_, .inr ⟨b, 0 + i * 2, c - i, _, rfl, by omega, hbk.ext hx5, ?_⟩⟩
        · simp only [List.length_take, List.length_drop, hrl]
          have : (n + 1 - i) * 2 ≤ (c - i) * 2 := Nat.mul_le_mul_right _ (by omega)
          rw [← Nat.sub_mul]; omega
        · rw [Nat.zero_add]; exact List.take_prefix _ _
      conv => whnf
      refine cp (sz := 2) TryzT_ok (hbk.ext hx5) ?_ hsi (fun w6 hb6 hc6 hs6 => ?_)
      · rw [hrl, Nat.zero_add, ← Nat.add_mul]; exact Nat.mul_le_mul_right _ (by omega)
      have m2 : min (n + 1 - i) (n + 1 - (i + 1)) = n - i := by omega
      have el : (cs.drop (i * 2)).length = (n - i) * 2 := by rw [List.length_drop, hl, Nat.sub_mul]
      have e3 : List.take ((n - i) * 2) (List.take ((n + 1 - i) * 2) (List.drop (i * 2) (cs ++ rest))) = cs.drop (i * 2) := by
        rw [List.take_take, Nat.min_eq_left (Nat.mul_le_mul_right _ (by omega)), List.drop_append_of_le_length (by omega), List.take_left' el]
      rw [m2, e3, Nat.zero_add] at hb6
      conv => whnf
      refine slX (sz := 2) (c := c) TryzT_ok i (n + 1) (by omega) ?_
      have hx6 : Own w6 (.slice (some ⟨bx, 0, none⟩) 1 cx) 120 2 1 new := (hx.ext hx5).chg hc6 (fun y hy => by simp at hy; omega)
      have hl6 : (splice (cs ++ rest) ((i + 1) * 2) (cs.drop (i * 2))).length = c * 2 := by
        unfold splice
        simp only [List.length_append, List.length_take, List.length_drop] at hrl ⊢
        have : i * 2 + 2 ≤ n * 2 := by have := Nat.mul_le_mul_right 2 (by omega : i + 1 ≤ n); rw [Nat.add_mul, Nat.one_mul] at this; exact this
        have : (i + 1) * 2 = i * 2 + 2 := by rw [Nat.add_mul, Nat.one_mul]
        omega
      conv => whnf
      refine cp (sz := 2) TryzT_ok hb6 ?_ hx6.sl (fun w7 hb7 hc7 hs7 => ?_)
      · rw [hl6, Nat.zero_add, ← Nat.add_mul]; exact Nat.mul_le_mul_right _ (by omega)
      have m1 : min 1 (n + 1 - i) = 1 := by omega
      rw [m1, Nat.one_mul, List.take_of_length_le (l := new) (by omega), Nat.zero_add, splice_ins hl (by omega) hi hrest] at hb7
      conv => whnf
      have hch : Chg (· = b) w w7 := hx5.up.trans (hc6.trans hc7)
      refine ⟨_, c, rfl, ⟨?_, .inr ⟨b, c, rest.drop 2, rfl, hcn, hb7, ?_⟩⟩, hch.mono fun y _ hy => by simp [hy], fun y hy => .inl ?_⟩
      · simp only [List.length_append, List.length_take, el, hnl]
        rw [Nat.add_mul, Nat.sub_mul]; omega
      · simp only [List.length_append, List.length_take, List.length_drop, hnl] at hrl ⊢
        omega
      · simpa using hy

/-- slices.Delete of one thing at rows -/
theorem del_rows {w : World} {a : Option Addr} {c n i : Nat} {cs : List Value} (ho : Own w (.slice a n c) 120 2 n cs) (hi : i < n) (hb : n ≤ 100000000000) :
    Does Tryz.prog 222 [.slice a n c, .int .i64 (i : Int), .int .i64 ((i + 1 : Nat) : Int)] w fun v' w' => v' = .slice a (n - 1) c ∧ Ins w (.slice a n c) 120 2 (n - 1) (cs.take (i * 2) ++ cs.drop ((i + 1) * 2)) (.slice a (n - 1) c) w' := by
  have hl := ho.1
  have spot := ho.spot
  obtain ⟨b, o, c', h3⟩ := ho.sl.some (by omega)
  cases h3
  obtain ⟨ho0, rest, hc4, hbk, hrl⟩ := ho.opens
  subst ho0
  have hs1 : (i + 1) * 2 = i * 2 + 2 := by rw [Nat.add_mul, Nat.one_mul]
  have hs2 : i * 2 + 2 ≤ n * 2 := by have := Nat.mul_le_mul_right 2 (by omega : i + 1 ≤ n); rw [Nat.add_mul, Nat.one_mul] at this; exact this
  have hs3 : (n - 1) * 2 + 2 = n * 2 := by rw [Nat.sub_mul, Nat.one_mul]; omega
  refine does1 TryzT_ok Tryz.func222 Tryz.call222 Tryz.ntmps222 Tryz.results222 ?_
  conv => whnf
  refine sl3 (c := c) TryzT_ok (l := i) (h := i + 1) (m := n) (by omega) (fun v => ?_)
  conv => whnf
  refine Cmp.n (by omega) ?_
  conv => whnf
  refine draw TryzT_ok Tryz_mixed (fun w2 hx2 _ => ?_)
  conv => whnf
  refine slP (c := c) TryzT_ok i (by omega) spot ?_
  conv => whnf
  refine slN (sz := 2) TryzT_ok (i + 1) n (n - (i + 1)) _ (ho.sl.ext hx2) (by omega) rfl (fun a3 c3 hs3' => ?_)
  have el : (cs.drop ((i + 1) * 2)).length = (n - (i + 1)) * 2 := by rw [List.length_drop, hl, Nat.sub_mul]
  rw [List.take_of_length_le (by omega)] at hs3'
  conv => whnf
  refine apR (sz := 2) (n := i) (m := n - (i + 1)) TryzT_ok (hbk.ext hx2) hrl (by omega) hs3' (fun w4 hb4 hc4' hsz4 => ?_)
  have en : i + (n - (i + 1)) = n - 1 := by omega
  rw [en]
  have h1c : n - 1 < c := by omega
  conv => whnf
  refine slX (sz := 2) (c := c) TryzT_ok (n - 1) n (by omega) ?_
  have hlen4 : (splice (cs ++ rest) (i * 2) (cs.drop ((i + 1) * 2))).length = c * 2 := by
    unfold splice
    simp only [List.length_append, List.length_take, List.length_drop] at hrl ⊢
    omega
  conv => whnf
  refine clr (sz := 2) TryzT_ok hb4 ?_ (fun w5 hb5 hc5 hsz5 => ?_)
  · rw [hlen4, Nat.zero_add, ← Nat.add_mul]; exact Nat.mul_le_mul_right _ (by omega)
  have e1 : n - (n - 1) = 1 := by omega
  generalize hZ : (Builtin.zeroCells _ (n - (n - 1))).toList = Z at hb5
  have hZl : Z.length = 2 := by rw [← hZ, Array.length_toList, zeroCells_len, e1]; rfl
  rw [Nat.zero_add, splice_del hl hi hZl] at hb5
  conv => whnf
  have hch : Chg (· = b) w w5 := hx2.up.trans (hc4'.trans hc5)
  have hl1 : (cs.take (i * 2) ++ cs.drop ((i + 1) * 2)).length = (n - 1) * 2 := by
    rw [List.length_append, List.length_take, el, Nat.sub_mul, Nat.sub_mul]; omega
  refine ⟨rfl, ⟨hl1, .inr ⟨b, c, Z ++ rest, rfl, by omega, hb5, ?_⟩⟩, hch.mono fun y _ hy => by simp [hy], fun y hy => .inl ?_⟩
  · rw [List.length_append, hl1, List.length_append, hZl]
    rw [List.length_append, hl] at hrl
    omega
  · simpa using hy

/-- slices.Insert of one thing at msgs -/
theorem ins_msgs {w : World} {a : Option Addr} {c n i : Nat} {vx : Value} {cs new : List Value} (ho : Own w (.slice a n c) 33 6 n cs) (hx : Own w vx 33 6 1 new) (hne : ∀ b, blkOf vx b → ¬ blkOf (.slice a n c) b) (hi : i ≤ n) (hb : n ≤ 100000000000) :
    Does Tryz.prog 227 [.slice a n c, .int .i64 (i : Int), vx] w fun v' w' => ∃ a' c', v' = .slice a' (n + 1) c' ∧ Ins w (.slice a n c) 33 6 (n + 1) (cs.take (i * 6) ++ new ++ cs.drop (i * 6)) (.slice a' (n + 1) c') w' := by
  obtain ⟨bx, ox, cx, rfl⟩ := hx.sl.some (by omega)
  have hl := ho.1
  have hnl := hx.1
  have hils : i * 6 ≤ n * 6 := Nat.mul_le_mul_right _ hi
  have spot := ho.spot
  refine does1 TryzT_ok Tryz.func227 Tryz.call227 Tryz.ntmps227 Tryz.results227 ?_
  conv => whnf
  refine slN (sz := 6) TryzT_ok i n (n - i) _ ho.sl (by omega) rfl (fun a1 c1 _ => ?_)
  conv => whnf
  refine Cmp.n (by omega) ?_
  conv => whnf
  refine Cmp.dec (fun h1 => ?_) (fun h1 => ?_)
  · have h1 : i = n := by omega
    subst h1
    conv => whnf
    refine ap TryzT_ok ho hx.sl (by omega) (fun a4 c4 w4 hap => ?_)
    conv => whnf
    have e1 : cs.take (i * 6) ++ new ++ cs.drop (i * 6) = cs ++ new := by
      rw [List.take_of_length_le (by omega), List.drop_of_length_le (by omega), List.append_nil]
    rw [e1]
    exact ⟨a4, c4, rfl, hap.own, hap.chg, hap.at_⟩
  · have hin : i < n := by omega
    conv => whnf
    refine Ar.i (by omega) ?_
    conv => whnf
    refine cap_ TryzT_ok ?_
    conv => whnf
    refine Cmp.dec (fun h2 => ?_) (fun h2 => ?_)
    · conv => whnf
      refine slP (c := c) TryzT_ok i (by have := ho.sl.cap; omega) spot ?_
      conv => whnf
      refine Ar.i (by omega) ?_
      conv => whnf
      refine Ar.i (by omega) ?_
      have hpre : Sl w (.slice a i c) 33 6 i (cs.take (i * 6)) := by
        rcases ho.sl.2 with ⟨c', hv, h0⟩ | ⟨b, off, c', full, hv, hnc, hbk, hp⟩
        · omega
        · cases hv
          exact ⟨by simp; omega, .inr ⟨b, off, c, full, rfl, by omega, hbk, (List.take_prefix _ _).trans hp⟩⟩
      conv => whnf
      refine apZ (sz := 6) (kq := .i64) (kn := .i64) (m := n + 1 - i) TryzT_ok hpre (by omega) (by omega) (by omega) (fun b4 c4 w4 ho4 hb4 hx4 => ?_) (hx := ?_)
      rotate_left
      · show Value.int _ _ = _
        congr 1; omega
      generalize hZ : (Builtin.zeroCells _ (n + 1 - i)).toList = Z at ho4
      have hlZ : Z.length = (n + 1 - i) * 6 := by rw [← hZ, Array.length_toList, zeroCells_len]; rfl
      have en : i + (n + 1 - i) = n + 1 := by omega
      rw [en] at ho4 ⊢
      obtain ⟨_, rest, hc4, hbk, hrl⟩ := ho4.opens
      conv => whnf
      refine slX (sz := 6) (c := c4) TryzT_ok i (n + 1) (by omega) ?_
      conv => whnf
      refine cp (sz := 6) TryzT_ok hbk ?_ (hx.sl.ext hx4) (fun w5 hb5 hc5 hs5 => ?_)
      · simp only [Nat.zero_add] at *; rw [hrl]; rw [← Nat.add_mul]; exact Nat.mul_le_mul_right _ (by omega)
      have m1 : min 1 (n + 1 - i) = 1 := by omega
      rw [m1, Nat.one_mul, List.take_of_length_le (l := new) (by omega), Nat.zero_add] at hb5
      have hx5 : Ext w w5 := hx4.then hc5 fun b hb => by omega
      conv => whnf
      refine draw TryzT_ok Tryz_mixed (fun w6 hx6 _ => ?_)
      conv => whnf
      refine Ar.i (by omega) ?_
      have e1 : (i : Int) + ((1 : Nat) : Int) = ((i + 1 : Nat) : Int) := by omega
      rw [e1]
      conv => whnf
      refine slX (sz := 6) (c := c4) TryzT_ok (i + 1) (n + 1) (by omega) ?_
      conv => whnf
      refine slN (sz := 6) TryzT_ok i n (n - i) _ (ho.sl.ext (hx5.trans hx6)) (by omega) rfl (fun a7 c7 hs7 => ?_)
      have hlen5 : (splice (List.take (i * 6) cs ++ Z ++ rest) (i * 6) new).length = c4 * 6 := by
        unfold splice
        simp only [List.length_append, List.length_take, List.length_drop] at hrl ⊢
        have : n * 6 + 6 ≤ c4 * 6 := by have := Nat.mul_le_mul_right 6 hc4; rw [Nat.add_mul, Nat.one_mul] at this; exact this
        have : i * 6 + 6 ≤ n * 6 := by have := Nat.mul_le_mul_right 6 (by omega : i + 1 ≤ n); rw [Nat.add_mul, Nat.one_mul] at this; exact this
        omega
      conv => whnf
      refine cp (sz := 6) TryzT_ok (hb5.ext hx6) ?_ hs7 (fun w8 hb8 hc8 hs8 => ?_)
      · rw [hlen5, Nat.zero_add, ← Nat.add_mul]; exact Nat.mul_le_mul_right _ (by omega)
      have m2 : min (n - i) (n + 1 - (i + 1)) = n - i := by omega
      have el : (cs.drop (i * 6)).length = (n - i) * 6 := by rw [List.length_drop, hl, Nat.sub_mul]
      rw [m2, List.take_of_length_le (l := cs.drop (i * 6)) (by omega), List.take_of_length_le (l := cs.drop (i * 6)) (by omega), Nat.zero_add] at hb8
      conv => whnf
      have hx8 : Ext w w8 := (hx5.trans hx6).then hc8 fun b hb => by omega
      refine ⟨_, c4, rfl, ⟨?_, .inr ⟨b4, c4, rest, rfl, hc4, ?_, ?_⟩⟩, hx8.up, fun b hb => .inr ?_⟩
      · simp only [List.length_append, List.length_take, el]
        rw [Nat.add_mul, Nat.sub_mul]; omega
      · have hta : (List.take (i * 6) cs).length = i * 6 := by have := List.length_take (i := i * 6) (l := cs); omega
        have hZ2 : Z.length = 6 + (n - i) * 6 := by rw [hlZ, show n + 1 - i = 1 + (n - i) from by omega, Nat.add_mul, Nat.one_mul]
        have e2 := splice_new (rest := rest) (D := cs.drop (i * 6)) hta (by omega : new.length = 6) hZ2 el
        have hs : (i + 1) * 6 = i * 6 + 6 := by rw [Nat.add_mul, Nat.one_mul]
        rw [hs] at hb8
        rw [← e2]; exact hb8
      · simp only [List.length_append, List.length_take, el] at hrl ⊢
        rw [hlZ] at hrl
        have : (n + 1 - i) * 6 = 6 + (n - i) * 6 := by rw [show n + 1 - i = 1 + (n - i) from by omega, Nat.add_mul, Nat.one_mul]
        rw [hnl]; omega
      · simp at hb
        omega
    · obtain ⟨b, o, c', h3⟩ := ho.sl.some (by omega)
      cases h3
      obtain ⟨ho0, rest, hc4, hbk, hrl⟩ := ho.opens
      subst ho0
      obtain ⟨hox, restx, hcx, hbkx, hrlx⟩ := hx.opens
      subst hox
      have hcn : n + 1 ≤ c := by omega
      have hrest : 6 ≤ rest.length := by
        rw [List.length_append, hl] at hrl
        have := Nat.mul_le_mul_right 6 hcn
        rw [Nat.add_mul, Nat.one_mul] at this
        omega
      have hbx : bx ≠ b := fun e => hne bx (by simp) (by simp [e])
      conv => whnf
      refine Ar.i (by omega) ?_
      have en : ((n : Int) + ((1 : Nat) : Int)) = ((n + 1 : Nat) : Int) := by omega
      rw [en]
      conv => whnf
      refine slP (c := c) TryzT_ok (n + 1) (by omega) spot ?_
      conv => whnf
      refine Ar.i (by omega) ?_
      have e1 : (i : Int) + ((1 : Nat) : Int) = ((i + 1 : Nat) : Int) := by omega
      rw [e1]
      by_cases hcl : i + 1 < c
      case neg => omega
      conv => whnf
      refine slX (sz := 6) (c := c) TryzT_ok (i + 1) (n + 1) (by omega) ?_
      have hov : (callFunc 232 #[.slice (some ⟨bx, 0, none⟩) 1 cx, .slice (some ⟨b, 0 + (i + 1) * 6, none⟩) (n + 1 - (i + 1)) (c - (i + 1))]).run Tryz.prog w = .ok (.value (.bool false)) w := by
        rw [run_callFunc_extern Tryz.func232 (by kernel_rfl) (by kernel_rfl) (by kernel_rfl) (e := Extern.SlicesOverlaps.overlaps #[43, 43] #[4]) (by kernel_rfl),
          Lib.run_overlaps_apart w 43 4 33 (TryzT_ok.get (t := 43) rfl).und 6 (fun w => run_size (TryzT_ok.get (t := 33) rfl).info w) ⟨bx, 0, none⟩ ⟨b, 0 + (i + 1) * 6, none⟩ 1 cx _ _ hbx _ _ _ _ hbkx.shape hbk.shape (by rw [hrl]; omega) (hbkx.frozen _ _) (hbkx.frozen _ _)]
        rfl
      conv => whnf
      refine clx hov ?_
      conv => whnf
      refine draw TryzT_ok Tryz_mixed (fun w5 hx5 _ => ?_)
      conv => whnf
      refine Ar.i (by omega) ?_
      rw [e1]
      conv => whnf
      refine slX (sz := 6) (c := c) TryzT_ok (i + 1) (n + 1) (by omega) ?_
      conv => whnf
      refine slX (sz := 6) (c := c) TryzT_ok i (n + 1) (by omega) ?_
      have hsi : Sl w5 (.slice (some ⟨b, 0 + i * 6, none⟩) (n + 1 - i) (c - i)) 33 6 (n + 1 - i) (((cs ++ rest).drop (i * 6)).take ((n + 1 - i) * 6)) := by
        refine ⟨?_, .inr ⟨b, 0 + i * 6, c - i, _, rfl, by omega, hbk.ext hx5, ?_⟩⟩
        · simp only [List.length_take, List.length_drop, hrl]
          have : (n + 1 - i) * 6 ≤ (c - i) * 6 := Nat.mul_le_mul_right _ (by omega)
          rw [← Nat.sub_mul]; omega
        · rw [Nat.zero_add]; exact List.take_prefix _ _
      conv => whnf
      refine cp (sz := 6) TryzT_ok (hbk.ext hx5) ?_ hsi (fun w6 hb6 hc6 hs6 => ?_)
      · rw [hrl, Nat.zero_add, ← Nat.add_mul]; exact Nat.mul_le_mul_right _ (by omega)
      have m2 : min (n + 1 - i) (n + 1 - (i + 1)) = n - i := by omega
      have el : (cs.drop (i * 6)).length = (n - i) * 6 := by rw [List.length_drop, hl, Nat.sub_mul]
      have e3 : List.take ((n - i) * 6) (List.take ((n + 1 - i) * 6) (List.drop (i * 6) (cs ++ rest))) = cs.drop (i * 6) := by
        rw [List.take_take, Nat.min_eq_left (Nat.mul_le_mul_right _ (by omega)), List.drop_append_of_le_length (by omega), List.take_left' el]
      rw [m2, e3, Nat.zero_add] at hb6
      conv => whnf
      refine slX (sz := 6) (c := c) TryzT_ok i (n + 1) (by omega) ?_
      have hx6 : Own w6 (.slice (some ⟨bx, 0, none⟩) 1 cx) 33 6 1 new := (hx.ext hx5).chg hc6 (fun y hy => by simp at hy; omega)
      have hl6 : (splice (cs ++ rest) ((i + 1) * 6) (cs.drop (i * 6))).length = c * 6 := by
        unfold splice
        simp only [List.length_append, List.length_take, List.length_drop] at hrl ⊢
        have : i * 6 + 6 ≤ n * 6 := by have := Nat.mul_le_mul_right 6 (by omega : i + 1 ≤ n); rw [Nat.add_mul, Nat.one_mul] at this; exact this
        have : (i + 1) * 6 = i * 6 + 6 := by rw [Nat.add_mul, Nat.one_mul]
        omega
      conv => whnf
      refine cp (sz := 6) TryzT_ok hb6 ?_ hx6.sl (fun w7 hb7 hc7 hs7 => ?_)
      · rw [hl6, Nat.zero_add, ← Nat.add_mul]; exact Nat.mul_le_mul_right _ (by omega)
      have m1 : min 1 (n + 1 - i) = 1 := by omega
      rw [m1, Nat.one_mul, List.take_of_length_le (l := new) (by omega), Nat.zero_add, splice_ins hl (by omega) hi hrest] at hb7
      conv => whnf
      have hch : Chg (· = b) w w7 := hx5.up.trans (hc6.trans hc7)
      refine ⟨_, c, rfl, ⟨?_, .inr ⟨b, c, rest.drop 6, rfl, hcn, hb7, ?_⟩⟩, hch.mono fun y _ hy => by simp [hy], fun y hy => .inl ?_⟩
      · simp only [List.length_append, List.length_take, el, hnl]
        rw [Nat.add_mul, Nat.sub_mul]; omega
      · simp only [List.length_append, List.length_take, List.length_drop, hnl] at hrl ⊢
        omega
      · simpa using hy

/-- slices.Delete of one thing at msgs -/
theorem del_msgs {w : World} {a : Option Addr} {c n i : Nat} {cs : List Value} (ho : Own w (.slice a n c) 33 6 n cs) (hi : i < n) (hb : n ≤ 100000000000) :
    Does Tryz.prog 213 [.slice a n c, .int .i64 (i : Int), .int .i64 ((i + 1 : Nat) : Int)] w fun v' w' => v' = .slice a (n - 1) c ∧ Ins w (.slice a n c) 33 6 (n - 1) (cs.take (i * 6) ++ cs.drop ((i + 1) * 6)) (.slice a (n - 1) c) w' := by
  have hl := ho.1
  have spot := ho.spot
  obtain ⟨b, o, c', h3⟩ := ho.sl.some (by omega)
  cases h3
  obtain ⟨ho0, rest, hc4, hbk, hrl⟩ := ho.opens
  subst ho0
  have hs1 : (i + 1) * 6 = i * 6 + 6 := by rw [Nat.add_mul, Nat.one_mul]
  have hs2 : i * 6 + 6 ≤ n * 6 := by have := Nat.mul_le_mul_right 6 (by omega : i + 1 ≤ n); rw [Nat.add_mul, Nat.one_mul] at this; exact this
  have hs3 : (n - 1) * 6 + 6 = n * 6 := by rw [Nat.sub_mul, Nat.one_mul]; omega
  refine does1 TryzT_ok Tryz.func213 Tryz.call213 Tryz.ntmps213 Tryz.results213 ?_
  conv => whnf
  refine sl3 (c := c) TryzT_ok (l := i) (h := i + 1) (m := n) (by omega) (fun v => ?_)
  conv => whnf
  refine Cmp.n (by omega) ?_
  conv => whnf
  refine draw TryzT_ok Tryz_mixed (fun w2 hx2 _ => ?_)
  conv => whnf
  refine slP (c := c) TryzT_ok i (by omega) spot ?_
  conv => whnf
  refine slN (sz := 6) TryzT_ok (i + 1) n (n - (i + 1)) _ (ho.sl.ext hx2) (by omega) rfl (fun a3 c3 hs3' => ?_)
  have el : (cs.drop ((i + 1) * 6)).length = (n - (i + 1)) * 6 := by rw [List.length_drop, hl, Nat.sub_mul]
  rw [List.take_of_length_le (by omega)] at hs3'
  conv => whnf
  refine apR (sz := 6) (n := i) (m := n - (i + 1)) TryzT_ok (hbk.ext hx2) hrl (by omega) hs3' (fun w4 hb4 hc4' hsz4 => ?_)
  have en : i + (n - (i + 1)) = n - 1 := by omega
  rw [en]
  have h1c : n - 1 < c := by omega
  conv => whnf
  refine slX (sz := 6) (c := c) TryzT_ok (n - 1) n (by omega) ?_
  have hlen4 : (splice (cs ++ rest) (i * 6) (cs.drop ((i + 1) * 6))).length = c * 6 := by
    unfold splice
    simp only [List.length_append, List.length_take, List.length_drop] at hrl ⊢
    omega
  conv => whnf
  refine clr (sz := 6) TryzT_ok hb4 ?_ (fun w5 hb5 hc5 hsz5 => ?_)
  · rw [hlen4, Nat.zero_add, ← Nat.add_mul]; exact Nat.mul_le_mul_right _ (by omega)
  have e1 : n - (n - 1) = 1 := by omega
  generalize hZ : (Builtin.zeroCells _ (n - (n - 1))).toList = Z at hb5
  have hZl : Z.length = 6 := by rw [← hZ, Array.length_toList, zeroCells_len, e1]; rfl
  rw [Nat.zero_add, splice_del hl hi hZl] at hb5
  conv => whnf
  have hch : Chg (· = b) w w5 := hx2.up.trans (hc4'.trans hc5)
  have hl1 : (cs.take (i * 6) ++ cs.drop ((i + 1) * 6)).length = (n - 1) * 6 := by
    rw [List.length_append, List.length_take, el, Nat.sub_mul, Nat.sub_mul]; omega
  refine ⟨rfl, ⟨hl1, .inr ⟨b, c, Z ++ rest, rfl, by omega, hb5, ?_⟩⟩, hch.mono fun y _ hy => by simp [hy], fun y hy => .inl ?_⟩
  · rw [List.length_append, hl1, List.length_append, hZl]
    rw [List.length_append, hl] at hrl
    omega
  · simpa using hy

/-- slices.Insert of one thing at objs -/
theorem ins_objs {w : World} {a : Option Addr} {c n i : Nat} {vx : Value} {cs new : List Value} (ho : Own w (.slice a n c) 45 6 n cs) (hx : Own w vx 45 6 1 new) (hne : ∀ b, blkOf vx b → ¬ blkOf (.slice a n c) b) (hi : i ≤ n) (hb : n ≤ 100000000000) :
    Does Tryz.prog 186 [.slice a n c, .int .i64 (i : Int), vx] w fun v' w' => ∃ a' c', v' = .slice a' (n + 1) c' ∧ Ins w (.slice a n c) 45 6 (n + 1) (cs.take (i * 6) ++ new ++ cs.drop (i * 6)) (.slice a' (n + 1) c') w' := by
  obtain ⟨bx, ox, cx, rfl⟩ := hx.sl.some (by omega)
  have hl := ho.1
  have hnl := hx.1
  have hils : i * 6 ≤ n * 6 := Nat.mul_le_mul_right _ hi
  have spot := ho.spot
  refine does1 TryzT_ok Tryz.func186 Tryz.call186 Tryz.ntmps186 Tryz.results186 ?_
  conv => whnf
  refine slN (sz := 6) TryzT_ok i n (n - i) _ ho.sl (by omega) rfl (fun a1 c1 _ => ?_)
  conv => whnf
  refine Cmp.n (by omega) ?_
  conv => whnf
  refine Cmp.dec (fun h1 => ?_) (fun h1 => ?_)
  · have h1 : i = n := by omega
    subst h1
    conv => whnf
    refine ap TryzT_ok ho hx.sl (by omega) (fun a4 c4 w4 hap => ?_)
    conv => whnf
    have e1 : cs.take (i * 6) ++ new ++ cs.drop (i * 6) = cs ++ new := by
      rw [List.take_of_length_le (by omega), List.drop_of_length_le (by omega), List.append_nil]
    rw [e1]
    exact ⟨a4, c4, rfl, hap.own, hap.chg, hap.at_⟩
  · have hin : i < n := by omega
    conv => whnf
    refine Ar.i (by omega) ?_
    conv => whnf
    refine cap_ TryzT_ok ?_
    conv => whnf
    refine Cmp.dec (fun h2 => ?_) (fun h2 => ?_)
    · conv => whnf
      refine slP (c := c) TryzT_ok i (by have := ho.sl.cap; omega) spot ?_
      conv => whnf
      refine Ar.i (by omega) ?_
      conv => whnf
      refine Ar.i (by omega) ?_
      have hpre : Sl w (.slice a i c) 45 6 i (cs.take (i * 6)) := by
        rcases ho.sl.2 with ⟨c', hv, h0⟩ | ⟨b, off, c', full, hv, hnc, hbk, hp⟩
        · omega
        · cases hv
          exact ⟨by simp; omega, .inr ⟨b, off, c, full, rfl, by omega, hbk, (List.take_prefix _ _).trans hp⟩⟩
      conv => whnf
      refine apZ (sz := 6) (kq := .i64) (kn := .i64) (m := n + 1 - i) TryzT_ok hpre (by omega) (by omega) (by omega) (fun b4 c4 w4 ho4 hb4 hx4 => ?_) (hx := ?_)
      rotate_left
      · show Value.int _ _ = _
        congr 1; omega
      generalize hZ : (Builtin.zeroCells _ (n + 1 - i)).toList = Z at ho4
      have hlZ : Z.length = (n + 1 - i) * 6 := by rw [← hZ, Array.length_toList, zeroCells_len]; rfl
      have en : i + (n + 1 - i) = n + 1 := by omega
      rw [en] at ho4 ⊢
      obtain ⟨_, rest, hc4, hbk, hrl⟩ := ho4.opens
      conv => whnf
      refine slX (sz := 6) (c := c4) TryzT_ok i (n + 1) (by omega) ?_
      conv => whnf
      refine cp (sz := 6) TryzT_ok hbk ?_ (hx.sl.ext hx4) (fun w5 hb5 hc5 hs5 => ?_)
      · simp only [Nat.zero_add] at *; rw [hrl]; rw [← Nat.add_mul]; exact Nat.mul_le_mul_right _ (by omega)
      have m1 : min 1 (n + 1 - i) = 1 := by omega
      rw [m1, Nat.one_mul, List.take_of_length_le (l := new) (by omega), Nat.zero_add] at hb5
      have hx5 : Ext w w5 := hx4.then hc5 fun b hb => by omega
      conv => whnf
      refine draw TryzT_ok Tryz_mixed (fun w6 hx6 _ => ?_)
      conv => whnf
      refine Ar.i (by omega) ?_
      have e1 : (i : Int) + ((1 : Nat) : Int) = ((i + 1 : Nat) : Int) := by omega
      rw [e1]
      conv => whnf
      refine slX (sz := 6) (c := c4) TryzT_ok (i + 1) (n + 1) (by omega) ?_
      conv => whnf
      refine slN (sz := 6) TryzT_ok i n (n - i) _ (ho.sl.ext (hx5.trans hx6)) (by omega) rfl (fun a7 c7 hs7 => ?_)
      have hlen5 : (splice (List.take (i * 6) cs ++ Z ++ rest) (i * 6) new).length = c4 * 6 := by
        unfold splice
        simp only [List.length_append, List.length_take, List.length_drop] at hrl ⊢
        have : n * 6 + 6 ≤ c4 * 6 := by have := Nat.mul_le_mul_right 6 hc4; rw [Nat.add_mul, Nat.one_mul] at this; exact this
        have : i * 6 + 6 ≤ n * 6 := by have := Nat.mul_le_mul_right 6 (by omega : i + 1 ≤ n); rw [Nat.add_mul, Nat.one_mul] at this; exact this
        omega
      conv => whnf
      refine cp (sz := 6) TryzT_ok (hb5.ext hx6) ?_ hs7 (fun w8 hb8 hc8 hs8 => ?_)
      · rw [hlen5, Nat.zero_add, ← Nat.add_mul]; exact Nat.mul_le_mul_right _ (by omega)
      have m2 : min (n - i) (n + 1 - (i + 1)) = n - i := by omega
      have el : (cs.drop (i * 6)).length = (n - i) * 6 := by rw [List.length_drop, hl, Nat.sub_mul]
      rw [m2, List.take_of_length_le (l := cs.drop (i * 6)) (by omega), List.take_of_length_le (l := cs.drop (i * 6)) (by omega), Nat.zero_add] at hb8
      conv => whnf
      have hx8 : Ext w w8 := (hx5.trans hx6).then hc8 fun b hb => by omega
      refine ⟨_, c4, rfl, ⟨?_, .inr ⟨b4, c4, rest, rfl, hc4, ?_, ?_⟩⟩, hx8.up, fun b hb => .inr ?_⟩
      · simp only [List.length_append, List.length_take, el]
        rw [Nat.add_mul, Nat.sub_mul]; omega
      · have hta : (List.take (i * 6) cs).length = i * 6 := by have := List.length_take (i := i * 6) (l := cs); omega
        have hZ2 : Z.length = 6 + (n - i) * 6 := by rw [hlZ, show n + 1 - i = 1 + (n - i) from by omega, Nat.add_mul, Nat.one_mul]
        have e2 := splice_new (rest := rest) (D := cs.drop (i * 6)) hta (by omega : new.length = 6) hZ2 el
        have hs : (i + 1) * 6 = i * 6 + 6 := by rw [Nat.add_mul, Nat.one_mul]
        rw [hs] at hb8
        rw [← e2]; exact hb8
      · simp only [List.length_append, List.length_take, el] at hrl ⊢
        rw [hlZ] at hrl
        have : (n + 1 - i) * 6 = 6 + (n - i) * 6 := by rw [show n + 1 - i = 1 + (n - i) from by omega, Nat.add_mul, Nat.one_mul]
        rw [hnl]; omega
      · simp at hb
        omega
    · obtain ⟨b, o, c', h3⟩ := ho.sl.some (by omega)
      cases h3
      obtain ⟨ho0, rest, hc4, hbk, hrl⟩ := ho.opens
      subst ho0
      obtain ⟨hox, restx, hcx, hbkx, hrlx⟩ := hx.opens
      subst hox
      have hcn : n + 1 ≤ c := by omega
      have hrest : 6 ≤ rest.length := by
        rw [List.length_append, hl] at hrl
        have := Nat.mul_le_mul_right 6 hcn
        rw [Nat.add_mul, Nat.one_mul] at this
        omega
      have hbx : bx ≠ b := fun e => hne bx (by simp) (by simp [e])
      conv => whnf
      refine Ar.i (by omega) ?_
      have en : ((n : Int) + ((1 : Nat) : Int)) = ((n + 1 : Nat) : Int) := by omega
      rw [en]
      conv => whnf
      refine slP (c := c) TryzT_ok (n + 1) (by omega) spot ?_
      conv => whnf
      refine Ar.i (by omega) ?_
      have e1 : (i : Int) + ((1 : Nat) : Int) = ((i + 1 : Nat) : Int) := by omega
      rw [e1]
      by_cases hcl : i + 1 < c
      case neg => omega
      conv => whnf
      refine slX (sz := 6) (c := c) TryzT_ok (i + 1) (n + 1) (by omega) ?_
      have hov : (callFunc 207 #[.slice (some ⟨bx, 0, none⟩) 1 cx, .slice (some ⟨b, 0 + (i + 1) * 6, none⟩) (n + 1 - (i + 1)) (c - (i + 1))]).run Tryz.prog w = .ok (.value (.bool false)) w := by
        rw [run_callFunc_extern Tryz.func207 (by kernel_rfl) (by kernel_rfl) (by kernel_rfl) (e := Extern.SlicesOverlaps.overlaps #[38, 38] #[4]) (by kernel_rfl),
          Lib.run_overlaps_apart w 38 4 45 (TryzT_ok.get (t := 38) rfl).und 6 (fun w => run_size (TryzT_ok.get (t := 45) rfl).info w) ⟨bx, 0, none⟩ ⟨b, 0 + (i + 1) * 6, none⟩ 1 cx _ _ hbx _ _ _ _ hbkx.shape hbk.shape (by rw [hrl]; omega) (hbkx.frozen _ _) (hbkx.frozen _ _)]
        rfl
      conv => whnf
      refine clx hov ?_
      conv => whnf
      refine draw TryzT_ok Tryz_mixed (fun w5 hx5 _ => ?_)
      conv => whnf
      refine Ar.i (by omega) ?_
      rw [e1]
      conv => whnf
      refine slX (sz := 6) (c := c) TryzT_ok (i + 1) (n + 1) (by omega) ?_
      conv => whnf
      refine slX (sz := 6) (c := c) TryzT_ok i (n + 1) (by omega) ?_
      have hsi : Sl w5 (.slice (some ⟨b, 0 + i * 6, none⟩) (n + 1 - i) (c - i)) 45 6 (n + 1 - i) (((cs ++ rest).drop (i * 6)).take ((n + 1 - i) * 6)) := by
        refine ⟨?_, .inr ⟨b, 0 + i * 6, c - i, _, rfl, by omega, hbk.ext hx5, ?_⟩⟩
        · simp only [List.length_take, List.length_drop, hrl]
          have : (n + 1 - i) * 6 ≤ (c - i) * 6 := Nat.mul_le_mul_right _ (by omega)
          rw [← Nat.sub_mul]; omega
        · rw [Nat.zero_add]; exact List.take_prefix _ _
      conv => whnf
      refine cp (sz := 6) TryzT_ok (hbk.ext hx5) ?_ hsi (fun w6 hb6 hc6 hs6 => ?_)
      · rw [hrl, Nat.zero_add, ← Nat.add_mul]; exact Nat.mul_le_mul_right _ (by omega)
      have m2 : min (n + 1 - i) (n + 1 - (i + 1)) = n - i := by omega
      have el : (cs.drop (i * 6)).length = (n - i) * 6 := by rw [List.length_drop, hl, Nat.sub_mul]
      have e3 : List.take ((n - i) * 6) (List.take ((n + 1 - i) * 6) (List.drop (i * 6) (cs ++ rest))) = cs.drop (i * 6) := by
        rw [List.take_take, Nat.min_eq_left (Nat.mul_le_mul_right _ (by omega)), List.drop_append_of_le_length (by omega), List.take_left' el]
      rw [m2, e3, Nat.zero_add] at hb6
      conv => whnf
      refine slX (sz := 6) (c := c) TryzT_ok i (n + 1) (by omega) ?_
      have hx6 : Own w6 (.slice (some ⟨bx, 0, none⟩) 1 cx) 45 6 1 new := (hx.ext hx5).chg hc6 (fun y hy => by simp at hy; omega)
      have hl6 : (splice (cs ++ rest) ((i + 1) * 6) (cs.drop (i * 6))).length = c * 6 := by
        unfold splice
        simp only [List.length_append, List.length_take, List.length_drop] at hrl ⊢
        have : i * 6 + 6 ≤ n * 6 := by have := Nat.mul_le_mul_right 6 (by omega : i + 1 ≤ n); rw [Nat.add_mul, Nat.one_mul] at this; exact this
        have : (i + 1) * 6 = i * 6 + 6 := by rw [Nat.add_mul, Nat.one_mul]
        omega
      conv => whnf
      refine cp (sz := 6) TryzT_ok hb6 ?_ hx6.sl (fun w7 hb7 hc7 hs7 => ?_)
      · rw [hl6, Nat.zero_add, ← Nat.add_mul]; exact Nat.mul_le_mul_right _ (by omega)
      have m1 : min 1 (n + 1 - i) = 1 := by omega
      rw [m1, Nat.one_mul, List.take_of_length_le (l := new) (by omega), Nat.zero_add, splice_ins hl (by omega) hi hrest] at hb7
      conv => whnf
      have hch : Chg (· = b) w w7 := hx5.up.trans (hc6.trans hc7)
      refine ⟨_, c, rfl, ⟨?_, .inr ⟨b, c, rest.drop 6, rfl, hcn, hb7, ?_⟩⟩, hch.mono fun y _ hy => by simp [hy], fun y hy => .inl ?_⟩
      · simp only [List.length_append, List.length_take, el, hnl]
        rw [Nat.add_mul, Nat.sub_mul]; omega
      · simp only [List.length_append, List.length_take, List.length_drop, hnl] at hrl ⊢
        omega
      · simpa using hy

end Go.Pst

namespace Go.Pst
open Go Go.Proofs

/-- slices.IndexFunc at rows -/
theorem idx_rows {α : Type} {w : World} {v : Value} {l : List α} {cs : List Value} (hs : Sl w v 120 2 l.length cs) (hb : l.length ≤ 274877906944) {g : FuncId} {cap : List Value} (q : α → Bool)
    (hf : ∀ (i : Nat) x, l[i]? = some x → ∀ w', Ext w w' → Does Tryz.prog g (.agg ⟨(cs.drop (i * 2)).take 2⟩ :: cap) w' fun v w'' => v = .bool (q x) ∧ Ext w' w'') :
    Does Tryz.prog 203 [v, .func (.func g) #[] ⟨cap⟩] w fun r w' => r = .int .i64 (lIdx q l) ∧ Ext w w' := by
  obtain ⟨a, c, rfl⟩ := hs.isSlice
  refine does1 TryzT_ok Tryz.func203 Tryz.call203 Tryz.ntmps203 Tryz.results203 ?_
  conv => whnf
  refine Cw.loopD TryzT_ok (ι := Nat) (fun i e w' => i ≤ l.length ∧ (∃ g', e = fr g' [(0, .slice a l.length c), (1, .func (.func g) #[] ⟨cap⟩), (7, .int .i64 (l.length : Int)), (8, .int .i64 (i : Int))]) ∧ (∀ (j : Nat) x, j < i → l[j]? = some x → q x = false) ∧ Ext w w')
    (fun i => l.length - i) 0 ⟨Nat.zero_le _, mkfr _ ⟨rfl, rfl, rfl, rfl, trivial⟩, fun j x hj => absurd hj (Nat.not_lt_zero _), Chg.refl w⟩ ?_
  rintro i e w1 ⟨hi, ⟨g', rfl⟩, hq, X⟩
  conv => whnf
  refine Cmp.dec (fun hlt => ?_) (fun hlt => ?_)
  · have hlt : i < l.length := by omega
    obtain ⟨x, hx⟩ := getElem?_lt hlt
    have hs1 := hs.ext X
    obtain ⟨b, o, c', h4⟩ := hs1.some (by omega)
    cases h4
    conv => whnf
    refine ia (sz := 2) TryzT_ok ?_ ?_
    · omega
    have hl : (List.take 2 (List.drop (i * 2) cs)).length = 2 := by
      rw [List.length_take, List.length_drop, hs.1]
      have := Nat.mul_le_mul_right 2 (by omega : i + 1 ≤ l.length)
      rw [Nat.add_mul] at this; omega
    conv => whnf
    refine ldA TryzT_ok (vs := (cs.drop (i * 2)).take 2) (hs1.elem i hlt) ?_ (hn := hl.symm)
    conv => whnf
    refine clv (hf i x hx w1 X) ?_
    rintro v w2 ⟨rfl, hx2⟩
    cases hqx : q x with
    | true =>
      conv => whnf
      exact ⟨by rw [lIdx_at hx hqx hq], X.trans hx2⟩
    | false =>
      conv => whnf
      refine Ar.i (by omega) ?_
      conv => whnf
      refine ⟨i + 1, ⟨hlt, mkfr _ ⟨rfl, rfl, rfl, rfl, trivial⟩, fun j y hj hy => ?_, X.trans hx2⟩, by omega⟩
      rcases Nat.lt_succ_iff_lt_or_eq.1 hj with h | h
      · exact hq j y h hy
      · subst h; rw [hx] at hy; cases hy; exact hqx
  · have : i = l.length := by omega
    subst this
    conv => whnf
    exact ⟨by rw [lIdx_none fun j x hx => hq j x (lt_of_getElem? hx) hx], X⟩
/-- slices.ContainsFunc at rows -/
theorem con_rows {α : Type} {w : World} {v : Value} {l : List α} {cs : List Value} (hs : Sl w v 120 2 l.length cs) (hb : l.length ≤ 274877906944) {g : FuncId} {cap : List Value} (q : α → Bool)
    (hf : ∀ (i : Nat) x, l[i]? = some x → ∀ w', Ext w w' → Does Tryz.prog g (.agg ⟨(cs.drop (i * 2)).take 2⟩ :: cap) w' fun v w'' => v = .bool (q x) ∧ Ext w' w'') :
    Does Tryz.prog 177 [v, .func (.func g) #[] ⟨cap⟩] w fun r w' => r = .bool (decide (0 ≤ lIdx q l)) ∧ Ext w w' := by
  obtain ⟨a, c, rfl⟩ := hs.isSlice
  refine does1 TryzT_ok Tryz.func177 Tryz.call177 Tryz.ntmps177 Tryz.results177 ?_
  conv => whnf
  refine cl (idx_rows hs hb q hf) ?_
  rintro v w1 ⟨rfl, hx1⟩
  conv => whnf
  refine Cmp.keep ?_
  conv => whnf
  exact ⟨rfl, hx1⟩
/-- slices.IndexFunc at msgs -/
theorem idx_msgs {α : Type} {w : World} {v : Value} {l : List α} {cs : List Value} (hs : Sl w v 33 6 l.length cs) (hb : l.length ≤ 274877906944) {g : FuncId} {cap : List Value} (q : α → Bool)
    (hf : ∀ (i : Nat) x, l[i]? = some x → ∀ w', Ext w w' → Does Tryz.prog g (.agg ⟨(cs.drop (i * 6)).take 6⟩ :: cap) w' fun v w'' => v = .bool (q x) ∧ Ext w' w'') :
    Does Tryz.prog 205 [v, .func (.func g) #[] ⟨cap⟩] w fun r w' => r = .int .i64 (lIdx q l) ∧ Ext w w' := by
  obtain ⟨a, c, rfl⟩ := hs.isSlice
  refine does1 TryzT_ok Tryz.func205 Tryz.call205 Tryz.ntmps205 Tryz.results205 ?_
  conv => whnf
  refine Cw.loopD TryzT_ok (ι := Nat) (fun i e w' => i ≤ l.length ∧ (∃ g', e = fr g' [(0, .slice a l.length c), (1, .func (.func g) #[] ⟨cap⟩), (7, .int .i64 (l.length : Int)), (8, .int .i64 (i : Int))]) ∧ (∀ (j : Nat) x, j < i → l[j]? = some x → q x = false) ∧ Ext w w')
    (fun i => l.length - i) 0 ⟨Nat.zero_le _, mkfr _ ⟨rfl, rfl, rfl, rfl, trivial⟩, fun j x hj => absurd hj (Nat.not_lt_zero _), Chg.refl w⟩ ?_
  rintro i e w1 ⟨hi, ⟨g', rfl⟩, hq, X⟩
  conv => whnf
  refine Cmp.dec (fun hlt => ?_) (fun hlt => ?_)
  · have hlt : i < l.length := by omega
    obtain ⟨x, hx⟩ := getElem?_lt hlt
    have hs1 := hs.ext X
    obtain ⟨b, o, c', h4⟩ := hs1.some (by omega)
    cases h4
    conv => whnf
    refine ia (sz := 6) TryzT_ok ?_ ?_
    · omega
    have hl : (List.take 6 (List.drop (i * 6) cs)).length = 6 := by
      rw [List.length_take, List.length_drop, hs.1]
      have := Nat.mul_le_mul_right 6 (by omega : i + 1 ≤ l.length)
      rw [Nat.add_mul] at this; omega
    conv => whnf
    refine ldA TryzT_ok (vs := (cs.drop (i * 6)).take 6) (hs1.elem i hlt) ?_ (hn := hl.symm)
    conv => whnf
    refine clv (hf i x hx w1 X) ?_
    rintro v w2 ⟨rfl, hx2⟩
    cases hqx : q x with
    | true =>
      conv => whnf
      exact ⟨by rw [lIdx_at hx hqx hq], X.trans hx2⟩
    | false =>
      conv => whnf
      refine Ar.i (by omega) ?_
      conv => whnf
      refine ⟨i + 1, ⟨hlt, mkfr _ ⟨rfl, rfl, rfl, rfl, trivial⟩, fun j y hj hy => ?_, X.trans hx2⟩, by omega⟩
      rcases Nat.lt_succ_iff_lt_or_eq.1 hj with h | h
      · exact hq j y h hy
      · subst h; rw [hx] at hy; cases hy; exact hqx
  · have : i = l.length := by omega
    subst this
    conv => whnf
    exact ⟨by rw [lIdx_none fun j x hx => hq j x (lt_of_getElem? hx) hx], X⟩
/-- slices.ContainsFunc at msgs -/
theorem con_msgs {α : Type} {w : World} {v : Value} {l : List α} {cs : List Value} (hs : Sl w v 33 6 l.length cs) (hb : l.length ≤ 274877906944) {g : FuncId} {cap : List Value} (q : α → Bool)
    (hf : ∀ (i : Nat) x, l[i]? = some x → ∀ w', Ext w w' → Does Tryz.prog g (.agg ⟨(cs.drop (i * 6)).take 6⟩ :: cap) w' fun v w'' => v = .bool (q x) ∧ Ext w' w'') :
    Does Tryz.prog 181 [v, .func (.func g) #[] ⟨cap⟩] w fun r w' => r = .bool (decide (0 ≤ lIdx q l)) ∧ Ext w w' := by
  obtain ⟨a, c, rfl⟩ := hs.isSlice
  refine does1 TryzT_ok Tryz.func181 Tryz.call181 Tryz.ntmps181 Tryz.results181 ?_
  conv => whnf
  refine cl (idx_msgs hs hb q hf) ?_
  rintro v w1 ⟨rfl, hx1⟩
  conv => whnf
  refine Cmp.keep ?_
  conv => whnf
  exact ⟨rfl, hx1⟩
/-- slices.IndexFunc at objs -/
theorem idx_objs {α : Type} {w : World} {v : Value} {l : List α} {cs : List Value} (hs : Sl w v 45 6 l.length cs) (hb : l.length ≤ 274877906944) {g : FuncId} {cap : List Value} (q : α → Bool)
    (hf : ∀ (i : Nat) x, l[i]? = some x → ∀ w', Ext w w' → Does Tryz.prog g (.agg ⟨(cs.drop (i * 6)).take 6⟩ :: cap) w' fun v w'' => v = .bool (q x) ∧ Ext w' w'') :
    Does Tryz.prog 184 [v, .func (.func g) #[] ⟨cap⟩] w fun r w' => r = .int .i64 (lIdx q l) ∧ Ext w w' := by
  obtain ⟨a, c, rfl⟩ := hs.isSlice
  refine does1 TryzT_ok Tryz.func184 Tryz.call184 Tryz.ntmps184 Tryz.results184 ?_
  conv => whnf
  refine Cw.loopD TryzT_ok (ι := Nat) (fun i e w' => i ≤ l.length ∧ (∃ g', e = fr g' [(0, .slice a l.length c), (1, .func (.func g) #[] ⟨cap⟩), (7, .int .i64 (l.length : Int)), (8, .int .i64 (i : Int))]) ∧ (∀ (j : Nat) x, j < i → l[j]? = some x → q x = false) ∧ Ext w w')
    (fun i => l.length - i) 0 ⟨Nat.zero_le _, mkfr _ ⟨rfl, rfl, rfl, rfl, trivial⟩, fun j x hj => absurd hj (Nat.not_lt_zero _), Chg.refl w⟩ ?_
  rintro i e w1 ⟨hi, ⟨g', rfl⟩, hq, X⟩
  conv => whnf
  refine Cmp.dec (fun hlt => ?_) (fun hlt => ?_)
  · have hlt : i < l.length := by omega
    obtain ⟨x, hx⟩ := getElem?_lt hlt
    have hs1 := hs.ext X
    obtain ⟨b, o, c', h4⟩ := hs1.some (by omega)
    cases h4
    conv => whnf
    refine ia (sz := 6) TryzT_ok ?_ ?_
    · omega
    have hl : (List.take 6 (List.drop (i * 6) cs)).length = 6 := by
      rw [List.length_take, List.length_drop, hs.1]
      have := Nat.mul_le_mul_right 6 (by omega : i + 1 ≤ l.length)
      rw [Nat.add_mul] at this; omega
    conv => whnf
    refine ldA TryzT_ok (vs := (cs.drop (i * 6)).take 6) (hs1.elem i hlt) ?_ (hn := hl.symm)
    conv => whnf
    refine clv (hf i x hx w1 X) ?_
    rintro v w2 ⟨rfl, hx2⟩
    cases hqx : q x with
    | true =>
      conv => whnf
      exact ⟨by rw [lIdx_at hx hqx hq], X.trans hx2⟩
    | false =>
      conv => whnf
      refine Ar.i (by omega) ?_
      conv => whnf
      refine ⟨i + 1, ⟨hlt, mkfr _ ⟨rfl, rfl, rfl, rfl, trivial⟩, fun j y hj hy => ?_, X.trans hx2⟩, by omega⟩
      rcases Nat.lt_succ_iff_lt_or_eq.1 hj with h | h
      · exact hq j y h hy
      · subst h; rw [hx] at hy; cases hy; exact hqx
  · have : i = l.length := by omega
    subst this
    conv => whnf
    exact ⟨by rw [lIdx_none fun j x hx => hq j x (lt_of_getElem? hx) hx], X⟩
/-- slices.ContainsFunc at objs -/
theorem con_objs {α : Type} {w : World} {v : Value} {l : List α} {cs : List Value} (hs : Sl w v 45 6 l.length cs) (hb : l.length ≤ 274877906944) {g : FuncId} {cap : List Value} (q : α → Bool)
    (hf : ∀ (i : Nat) x, l[i]? = some x → ∀ w', Ext w w' → Does Tryz.prog g (.agg ⟨(cs.drop (i * 6)).take 6⟩ :: cap) w' fun v w'' => v = .bool (q x) ∧ Ext w' w'') :
    Does Tryz.prog 223 [v, .func (.func g) #[] ⟨cap⟩] w fun r w' => r = .bool (decide (0 ≤ lIdx q l)) ∧ Ext w w' := by
  obtain ⟨a, c, rfl⟩ := hs.isSlice
  refine does1 TryzT_ok Tryz.func223 Tryz.call223 Tryz.ntmps223 Tryz.results223 ?_
  conv => whnf
  refine cl (idx_objs hs hb q hf) ?_
  rintro v w1 ⟨rfl, hx1⟩
  conv => whnf
  refine Cmp.keep ?_
  conv => whnf
  exact ⟨rfl, hx1⟩

abbrev RowsR (w : World) (v : Value) (l : List Row) : Prop := Ls w v 120 2 cRow l
abbrev MsgsR (w : World) (v : Value) (l : List Msg) : Prop := Ls w v 33 6 cMsg l
abbrev EffsR (w : World) (v : Value) (l : List Eff) : Prop := Ls w v 35 13 cEff l

theorem rRises_alt (l : List Row) : rRises l = true ↔ ∀ (i : Nat) a b, l[i]? = some a → l[i + 1]? = some b → kcmp a.key b.key < 0 := by
  induction l with
  | nil => simp [rRises]
  | cons x l ih =>
    cases l with
    | nil =>
      simp only [rRises, true_iff]
      intro i a b ha hb
      simp at hb
    | cons y l =>
      simp only [rRises, Bool.and_eq_true, decide_eq_true_eq, ih]
      constructor
      · rintro ⟨h1, h2⟩ i a b ha hb
        cases i with
        | zero => simp at ha hb; subst ha hb; exact h1
        | succ i => exact h2 i a b (by simpa using ha) (by simpa using hb)
      · intro h
        exact ⟨h 0 x y rfl rfl, fun i a b ha hb => h (i + 1) a b (by simpa using ha) (by simpa using hb)⟩

/-- node.Rises -/
theorem nd_rises {w : World} {v : Value} {l : List Row} (h : RowsR w v l) (hb : l.length ≤ 274877906944) :
    Does Tryz.prog 176 [v] w fun r w' => r = .bool (rRises l) ∧ Ext w w' := by
  obtain ⟨a, c, rfl⟩ := h.isSlice
  refine does1 TryzT_ok Tryz.func176 Tryz.call176 Tryz.ntmps176 Tryz.results176 ?_
  conv => whnf
  refine Cw.loopD TryzT_ok (ι := Nat) (fun i e w' => 1 ≤ i ∧ i ≤ l.length + 1 ∧ (∃ g', e = fr g' [(0, .slice a l.length c), (3, .int .i64 (i : Int))]) ∧ (∀ (j : Nat) x y, j + 1 < i → l[j]? = some x → l[j + 1]? = some y → kcmp x.key y.key < 0) ∧ Ext w w')
    (fun i => l.length + 1 - i) 1 ⟨by omega, by omega, mkfr _ ⟨rfl, rfl, trivial⟩, fun j x y hj => by omega, Chg.refl w⟩ ?_
  rintro i e w1 ⟨hi1, hi, ⟨g', rfl⟩, hq, X⟩
  conv => whnf
  refine Cmp.dec (fun hlt => ?_) (fun hlt => ?_)
  · have hlt : i < l.length := by omega
    obtain ⟨y, hy⟩ := getElem?_lt hlt
    obtain ⟨x, hx⟩ := getElem?_lt (show i - 1 < l.length by omega)
    have h1 := h.ext X
    obtain ⟨b, o, c', h4⟩ := h1.some (ne_nil_of_lt hlt)
    cases h4
    conv => whnf
    refine draw TryzT_ok Tryz_mixed (fun w2 hx2 _ => ?_)
    replace X := X.trans hx2
    replace h1 := h1.ext hx2
    conv => whnf
    refine Ar.i (by omega) ?_
    conv => whnf
    refine ia (sz := 2) TryzT_ok ?_ ?_
    · omega
    have e1 : ((i : Int) - 1).toNat = i - 1 := by omega
    have e2 : (i : Int).toNat = i := by omega
    rw [e1]
    conv => whnf
    refine ldLC TryzT_ok ((h1.cells cRow_len hx) 0 _ rfl) ?_
    conv => whnf
    refine ia (sz := 2) TryzT_ok ?_ ?_
    · omega
    rw [e2]
    conv => whnf
    refine ldLC TryzT_ok ((h1.cells cRow_len hy) 0 _ rfl) ?_
    conv => whnf
    refine cl (or_keys w2 x.key y.key) ?_
    rintro v w3 ⟨rfl, rfl⟩
    conv => whnf
    refine Cmp.dec (fun h5 => ?_) (fun h5 => ?_)
    · conv => whnf
      refine ⟨?_, X⟩
      congr 1
      rw [eq_comm, Bool.eq_false_iff]
      intro hr
      have := (rRises_alt l).1 hr (i - 1) x y hx (by rw [show i - 1 + 1 = i from by omega]; exact hy)
      omega
    · conv => whnf
      refine Ar.i (by omega) ?_
      conv => whnf
      refine ⟨i + 1, ⟨by omega, by omega, mkfr _ ⟨rfl, rfl, trivial⟩, fun j x' y' hj hx' hy' => ?_, X⟩, by omega⟩
      rcases Nat.lt_succ_iff_lt_or_eq.1 hj with h | h
      · exact hq j x' y' h hx' hy'
      · have : j = i - 1 := by omega
        subst this
        rw [hx] at hx'; cases hx'
        rw [show i - 1 + 1 = i from by omega, hy] at hy'; cases hy'
        omega
  · conv => whnf
    refine ⟨?_, X⟩
    congr 1
    rw [eq_comm, rRises_alt]
    exact fun j x y hx hy => hq j x y (by have := lt_of_getElem? hy; omega) hx hy

theorem rFind_at {l : List Row} {k : ByteArray} {i : Nat} {x : Row} (hx : l[i]? = some x) (hq : 0 ≤ kcmp x.key k) (h : ∀ (j : Nat) y, j < i → l[j]? = some y → kcmp y.key k < 0) : rFind l k = (i, decide (kcmp x.key k = 0)) := by
  induction l generalizing i with
  | nil => simp at hx
  | cons z l ih =>
    cases i with
    | zero => simp at hx; subst hx; unfold rFind; rw [if_pos hq]
    | succ i =>
      have h0 := h 0 z (by omega) rfl
      have h1 := ih (by simpa using hx) fun j y hj hy => h (j + 1) y (by omega) (by simpa using hy)
      unfold rFind
      rw [h1, if_neg (by omega)]
theorem rFind_none {l : List Row} {k : ByteArray} (h : ∀ (j : Nat) y, l[j]? = some y → kcmp y.key k < 0) : rFind l k = (l.length, false) := by
  induction l with
  | nil => rfl
  | cons z l ih =>
    have h0 := h 0 z rfl
    have h1 := ih fun j y hy => h (j + 1) y (by simpa using hy)
    unfold rFind
    rw [h1, if_neg (by omega)]; rfl
/-- node.Find -/
theorem nd_find {w : World} {v : Value} {l : List Row} (h : RowsR w v l) (hb : l.length ≤ 274877906944) (k : ByteArray) :
    Does Tryz.prog 220 [v, .string k] w fun r w' => r = .tuple #[.int .i64 ((rFind l k).1 : Int), .bool (rFind l k).2] ∧ Ext w w' := by
  obtain ⟨a, c, rfl⟩ := h.isSlice
  refine does2 TryzT_ok Tryz.func220 Tryz.call220 Tryz.ntmps220 Tryz.results220 ?_
  conv => whnf
  refine Cw.loopD TryzT_ok (ι := Nat) (fun i e w' => i ≤ l.length ∧ (∃ g', e = fr g' [(0, .slice a l.length c), (1, .string k), (9, .slice a l.length c), (10, .int .i64 (l.length : Int)), (11, .int .i64 (i : Int))]) ∧ (∀ (j : Nat) y, j < i → l[j]? = some y → kcmp y.key k < 0) ∧ Ext w w')
    (fun i => l.length - i) 0 ⟨by omega, mkfr _ ⟨rfl, rfl, rfl, rfl, rfl, trivial⟩, fun j x hj => by omega, Chg.refl w⟩ ?_
  rintro i e w1 ⟨hi, ⟨g', rfl⟩, hq, X⟩
  conv => whnf
  refine Cmp.dec (fun hlt => ?_) (fun hlt => ?_)
  · have hlt : i < l.length := by omega
    obtain ⟨x, hx⟩ := getElem?_lt hlt
    have h1 := h.ext X
    obtain ⟨b, o, c', h4⟩ := h1.some (ne_nil_of_lt hlt)
    cases h4
    conv => whnf
    refine ia (sz := 2) TryzT_ok ?_ ?_
    · omega
    conv => whnf
    refine ldA TryzT_ok (h1.cells cRow_len hx) ?_
    conv => whnf
    refine al TryzT_ok ?_
    conv => whnf
    intro p w2a hpa hps hx2a _
    conv => whnf
    refine stA TryzT_ok hpa ?_
    conv => whnf
    intro w2 hp hpc _
    have hx2 : Ext _ w2 := hx2a.then hpc (fun y hy => by omega)
    clear hpa hpc hx2a
    replace X := X.trans hx2
    replace h1 := h1.ext hx2
    conv => whnf
    refine ld TryzT_ok hp ?_
    conv => whnf
    refine cl (or_keys w2 x.key k) ?_
    rintro v w3 ⟨rfl, rfl⟩
    conv => whnf
    refine Cmp.dec (fun h5 => ?_) (fun h5 => ?_)
    · conv => whnf
      refine Cmp.keep ?_
      conv => whnf
      refine ⟨?_, X⟩
      rw [rFind_at hx (by omega) hq]
    · conv => whnf
      refine Ar.i (by omega) ?_
      conv => whnf
      refine ⟨i + 1, ⟨by omega, mkfr _ ⟨rfl, rfl, rfl, rfl, rfl, trivial⟩, fun j y hj hy => ?_, X⟩, by omega⟩
      rcases Nat.lt_succ_iff_lt_or_eq.1 hj with h | h
      · exact hq j y h hy
      · subst h; rw [hx] at hy; cases hy; omega
  · have : i = l.length := by omega
    subst this
    conv => whnf
    refine ⟨?_, X⟩
    rw [rFind_none fun j y hy => hq j y (lt_of_getElem? hy) hy]

theorem clone_ls {α : Type} {enc : α → List Value} {w : World} {a : Option Addr} {c n E sz : Nat} {l : List α} (h : Own w (.slice a n c) E sz n (l.flatMap enc)) (hn : n = l.length) : Os w (.slice a n c) E sz enc l := by subst hn; exact h

/-- node.Put -/
theorem nd_put {w : World} {v : Value} {l : List Row} (h : RowsR w v l) (hb : l.length ≤ 1000000000) (r : Row) :
    Does Tryz.prog 209 [v, .agg ⟨cRow r⟩] w fun u w' => RowsR w' u (rPut l r) ∧ Ext w w' := by
  have hle := rFind_le l r.key
  obtain ⟨a, c, rfl⟩ := h.isSlice
  have X := Chg.refl (M := fun _ => False) w
  refine does1 TryzT_ok Tryz.func209 Tryz.call209 Tryz.ntmps209 Tryz.results209 ?_
  conv => whnf
  refine bx ?_
  conv => whnf
  intro p w1 hp _ hx1 _
  replace X := X.trans hx1
  replace h := h.ext hx1
  conv => whnf
  refine ld TryzT_ok hp ?_
  conv => whnf
  refine cl (nd_find h (by omega) r.key) ?_
  rintro v w2 ⟨rfl, hx2⟩
  replace X := X.trans hx2
  replace h := h.ext hx2
  replace hp := hp.ext hx2
  conv => whnf
  refine cl (clone_rows h (by omega)) ?_
  rintro v w3 ⟨a3, c3, rfl, hx3, ho3, hf3⟩
  replace X := X.trans hx3
  replace hp := hp.ext hx3
  have hlen := flt_len (enc := cRow) cRow_len l
  cases hfd : (rFind l r.key).2 with
  | true =>
    have hlt := hle.2 hfd
    obtain ⟨b, o, c', h4⟩ := ho3.sl.some (by omega)
    cases h4
    obtain ⟨ho0, rest, hc4, hbk, hrl⟩ := ho3.opens
    subst ho0
    conv => whnf
    refine ldA TryzT_ok (hp.cells (off := 0) (vs := cRow r) (List.prefix_refl _)) ?_
    conv => whnf
    refine ia (sz := 2) TryzT_ok ?_ ?_
    · omega
    have e2 : ((rFind l r.key).1 : Int).toNat = (rFind l r.key).1 := by omega
    rw [e2]
    conv => whnf
    refine stAR TryzT_ok (vs := cRow r) hbk ?_ ?_ (fun w4 hb4 hc4' hs4 => ?_)
    · rw [List.length_append, hlen]; simp only [cRow_len]; omega
    · intro v hv; simp [cRow] at hv; rcases hv with rfl | rfl <;> rfl
    conv => whnf
    rw [Nat.zero_add] at hb4
    have ho4 := ho3.splice hc4 hrl hb4 (by rw [hlen]; simp only [cRow_len]; omega)
    rw [flt_set cRow_len l _ r hlt] at ho4
    have X4 : Ext w w4 := X.then hc4' fun y hy => by
      have := hf3 b (by simp)
      have := (hx1.trans hx2).size
      omega
    refine ⟨?_, X4⟩
    unfold rPut
    simp only [hfd, if_true]
    have := ho4.sl
    show Sl _ _ _ _ _ _
    rw [List.length_set]; exact this
  | false =>
    conv => whnf
    refine ldA TryzT_ok (hp.cells (off := 0) (vs := cRow r) (List.prefix_refl _)) ?_
    conv => whnf
    refine bs (sz := 2) TryzT_ok ?_
    conv => whnf
    refine ⟨rfl, fun b4 w4 ho4 hs4 hx4 => ?_⟩
    have hne : ∀ b, blkOf (.slice (some ⟨b4, 0, none⟩) 1 1) b → ¬ blkOf (.slice a3 l.length c3) b := by
      intro b hb hb'
      obtain ⟨cc, hk⟩ := ho3.blk hb'
      have := hk.lt
      simp at hb; omega
    conv => whnf
    refine cl (ins_rows (ho3.ext hx4) ho4 hne hle.1 (by omega)) ?_
    rintro v w5 ⟨a5, c5, rfl, hi5⟩
    conv => whnf
    refine ⟨?_, (X.trans hx4).then hi5.chg fun y hy => by have := hf3 y hy; have := (hx1.trans hx2).size; omega⟩
    unfold rPut
    simp only [hfd]
    have := hi5.own.sl
    show Sl _ _ _ _ _ _
    have e3 : (List.take (rFind l r.key).1 l ++ r :: List.drop (rFind l r.key).1 l).length = l.length + 1 := by simp; omega
    simp only [Bool.false_eq_true, if_false]
    rw [e3, List.flatMap_append, List.flatMap_cons, ← flt_take cRow_len, ← flt_drop cRow_len, ← List.append_assoc]
    exact this
/-- node.Cut -/
theorem nd_cut {w : World} {v : Value} {l : List Row} (h : RowsR w v l) (hb : l.length ≤ 1000000000) (k : ByteArray) :
    Does Tryz.prog 210 [v, .string k] w fun u w' => ∃ x, u = .tuple #[x, .bool (rCut l k).2] ∧ RowsR w' x (rCut l k).1 ∧ Ext w w' := by
  have hle := rFind_le l k
  obtain ⟨a, c, rfl⟩ := h.isSlice
  have X := Chg.refl (M := fun _ => False) w
  refine does2 TryzT_ok Tryz.func210 Tryz.call210 Tryz.ntmps210 Tryz.results210 ?_
  conv => whnf
  refine cl (nd_find h (by omega) k) ?_
  rintro v w2 ⟨rfl, hx2⟩
  replace X := X.trans hx2
  replace h := h.ext hx2
  conv => whnf
  refine cl (clone_rows h (by omega)) ?_
  rintro v w3 ⟨a3, c3, rfl, hx3, ho3, hf3⟩
  replace X := X.trans hx3
  cases hfd : (rFind l k).2 with
  | true =>
    have hlt := hle.2 hfd
    conv => whnf
    refine Ar.i (by omega) ?_
    have e1 : ((rFind l k).1 : Int) + 1 = (((rFind l k).1 + 1 : Nat) : Int) := by omega
    rw [e1]
    conv => whnf
    refine cl (del_rows ho3 hlt (by omega)) ?_
    rintro v w5 ⟨rfl, hi5⟩
    conv => whnf
    unfold rCut
    simp only [hfd, if_true]
    refine ⟨_, rfl, ?_, X.then hi5.chg fun y hy => by have := hf3 y hy; have := hx2.size; omega⟩
    have := hi5.own.sl
    rw [flt_take cRow_len, flt_drop cRow_len, ← List.flatMap_append, ← List.eraseIdx_eq_take_drop_succ] at this
    show Sl _ _ _ _ _ _
    rw [List.length_eraseIdx_of_lt hlt]; exact this
  | false =>
    conv => whnf
    unfold rCut
    simp only [hfd]
    exact ⟨_, rfl, ho3.sl, X⟩
theorem rw_put {w : World} {v : Value} {l : List Row} (h : RowsR w v l) (hb : l.length ≤ 1000000000) (r : Row) :
    Does Tryz.prog 188 [v, .agg ⟨cRow r⟩] w fun u w' => RowsR w' u (rPut l r) ∧ Ext w w' := by
  obtain ⟨a, c, rfl⟩ := h.isSlice
  refine does1 TryzT_ok Tryz.func188 Tryz.call188 Tryz.ntmps188 Tryz.results188 ?_
  conv => whnf
  refine bx ?_
  conv => whnf
  intro p w1 hp _ hx1 _
  conv => whnf
  refine ldA TryzT_ok (hp.cells (off := 0) (vs := cRow r) (List.prefix_refl _)) ?_
  conv => whnf
  refine cl (nd_put (h.ext hx1) hb r) ?_
  rintro v w2 ⟨h2, hx2⟩
  obtain ⟨a2, c2, rfl⟩ := h2.isSlice
  conv => whnf
  exact ⟨h2, hx1.trans hx2⟩
theorem rw_cut {w : World} {v : Value} {l : List Row} (h : RowsR w v l) (hb : l.length ≤ 1000000000) (k : ByteArray) :
    Does Tryz.prog 189 [v, .string k] w fun u w' => ∃ x, u = .tuple #[x, .bool (rCut l k).2] ∧ RowsR w' x (rCut l k).1 ∧ Ext w w' := by
  obtain ⟨a, c, rfl⟩ := h.isSlice
  refine does2 TryzT_ok Tryz.func189 Tryz.call189 Tryz.ntmps189 Tryz.results189 ?_
  conv => whnf
  refine cl (nd_cut h hb k) ?_
  rintro v w2 ⟨x, rfl, h2, hx2⟩
  obtain ⟨a2, c2, rfl⟩ := h2.isSlice
  conv => whnf
  exact ⟨_, rfl, h2, hx2⟩
end Go.Pst

namespace Go.Pst
open Go Go.Proofs

/-- queue.Find's test -/
theorem qu_find1 {w : World} {p : Nat} {id : Int} (hp : Blk w p 3 [.int .i64 id]) (m : Msg) :
    Does Tryz.prog 214 [.agg ⟨cMsg m⟩, .pointer (some ⟨p, 0, none⟩)] w fun v w' => v = .bool (decide (m.id = id)) ∧ Ext w w' := by
  refine does1 TryzT_ok Tryz.func214 Tryz.call214 Tryz.ntmps214 Tryz.results214 ?_
  conv => whnf
  refine bx ?_
  conv => whnf
  intro q w1 hq _ hx1 _
  conv => whnf
  refine ld TryzT_ok hq ?_
  conv => whnf
  refine ld TryzT_ok (hp.ext hx1) ?_
  conv => whnf
  refine Cmp.keep ?_
  conv => whnf
  exact ⟨rfl, hx1⟩
/-- queue.Find -/
theorem qu_find {w : World} {v : Value} {l : List Msg} (h : MsgsR w v l) (hb : l.length ≤ 1000000000) (id : Int) :
    Does Tryz.prog 193 [v, .int .i64 id] w fun u w' => u = .int .i64 (qFind l id) ∧ Ext w w' := by
  obtain ⟨a, c, rfl⟩ := h.isSlice
  refine does1 TryzT_ok Tryz.func193 Tryz.call193 Tryz.ntmps193 Tryz.results193 ?_
  conv => whnf
  refine bx ?_
  conv => whnf
  intro p w1 hp _ hx1 _
  conv => whnf
  refine cl (idx_msgs (h.ext hx1) (by omega) (fun m => decide (m.id = id)) (fun i m hm w' X => by rw [flt_at cMsg_len hm]; exact qu_find1 (hp.ext X) m)) ?_
  rintro v w2 ⟨rfl, hx2⟩
  conv => whnf
  exact ⟨rfl, hx1.trans hx2⟩
theorem qu_add1 {w : World} {p : Nat} {m : Msg} (hp : Blk w p 33 (cMsg m)) (x : Msg) :
    Does Tryz.prog 226 [.agg ⟨cMsg x⟩, .pointer (some ⟨p, 0, none⟩)] w fun v w' => v = .bool (decide (0 < mcmp x m)) ∧ Ext w w' := by
  refine does1 TryzT_ok Tryz.func226 Tryz.call226 Tryz.ntmps226 Tryz.results226 ?_
  conv => whnf
  refine bx ?_
  conv => whnf
  intro q w1 hq _ hx1 _
  conv => whnf
  refine ldA TryzT_ok (hq.cells (off := 0) (vs := cMsg x) (List.prefix_refl _)) ?_
  conv => whnf
  refine ldA TryzT_ok ((hp.ext hx1).cells (off := 0) (vs := cMsg m) (List.prefix_refl _)) ?_
  conv => whnf
  refine cl (or_msgs w1 x m) ?_
  rintro v w2 ⟨rfl, hx2⟩
  conv => whnf
  refine Cmp.keep ?_
  conv => whnf
  exact ⟨rfl, hx1.trans hx2⟩

theorem lIns_flat {α : Type} {enc : α → List Value} {sz : Nat} (he : ∀ x, (enc x).length = sz) (l : List α) (i : Nat) (x : α) : (lIns l i x).flatMap enc = (l.flatMap enc).take (i * sz) ++ enc x ++ (l.flatMap enc).drop (i * sz) := by
  unfold lIns
  rw [List.flatMap_append, List.flatMap_cons, flt_take he, flt_drop he, List.append_assoc]

/-- queue.Add -/
theorem qu_add {w : World} {v : Value} {l : List Msg} (h : MsgsR w v l) (hb : l.length ≤ 1000000000) (m : Msg) :
    Does Tryz.prog 212 [v, .agg ⟨cMsg m⟩] w fun u w' => MsgsR w' u (qAdd l m) ∧ Ext w w' := by
  obtain ⟨a, c, rfl⟩ := h.isSlice
  refine does1 TryzT_ok Tryz.func212 Tryz.call212 Tryz.ntmps212 Tryz.results212 ?_
  conv => whnf
  refine bx ?_
  conv => whnf
  intro p w1 hp _ hx1 _
  replace h := h.ext hx1
  conv => whnf
  refine cl (idx_msgs h (by omega) (fun x => decide (0 < mcmp x m)) (fun i x hm w' X => by rw [flt_at cMsg_len hm]; exact qu_add1 (hp.ext X) x)) ?_
  rintro v w2 ⟨rfl, hx2⟩
  have X : Ext w w2 := hx1.trans hx2
  replace h := h.ext hx2
  replace hp := hp.ext hx2
  have hQ : qAdd l m = lIns l (if lIdx (fun x => decide (0 < mcmp x m)) l < 0 then l.length else (lIdx (fun x => decide (0 < mcmp x m)) l).toNat) m := rfl
  rw [hQ]
  clear hQ
  have main : ∀ (i : Nat), i ≤ l.length → ∀ w3 v4 v6, Ext w2 w3 → Os w3 v4 33 6 cMsg l → (∀ b, blkOf v4 b → w2.heap.size ≤ b) → Own w3 v6 33 6 1 (cMsg m) → (∀ b, blkOf v6 b → ¬ blkOf v4 b) →
      Does Tryz.prog 227 [v4, .int .i64 (i : Int), v6] w3 fun u w' => MsgsR w' u (lIns l i m) ∧ Ext w w' := by
    intro i hi w3 v4 v6 hx3 h4 hf4 h6 hne
    obtain ⟨a4, c4, rfl⟩ := Ls.isSlice h4.ls
    refine (ins_msgs h4 h6 hne hi (by omega)).mono ?_
    rintro v w5 ⟨a5, c5, rfl, hi5⟩
    refine ⟨?_, (X.trans hx3).then hi5.chg fun y hy => by have := hf4 y hy; have := X.size; omega⟩
    have := hi5.own.sl
    show Sl _ _ _ _ _ _
    rw [lIns_len hi, lIns_flat cMsg_len]; exact this
  have hj : lIdx (fun x => decide (0 < mcmp x m)) l = -1 ∨ ∃ i : Nat, lIdx (fun x => decide (0 < mcmp x m)) l = i ∧ i ≤ l.length := by
    rcases lIdx_cases (fun x => decide (0 < mcmp x m)) l with ⟨h1, _⟩ | ⟨i, x, h1, h2, _⟩
    · exact .inl h1
    · exact .inr ⟨i, h1, by have := lt_of_getElem? h2; omega⟩
  generalize lIdx (fun x => decide (0 < mcmp x m)) l = j at hj ⊢
  rcases hj with rfl | ⟨i, rfl, hi⟩
  · conv => whnf
    refine Cmp.y (by omega) ?_
    rw [if_pos (by omega)]
    conv => whnf
    refine draw TryzT_ok Tryz_mixed (fun w3 hx3 _ => ?_)
    replace h := h.ext hx3
    replace hp := hp.ext hx3
    conv => whnf
    refine ldLA TryzT_ok (hp.cells (off := 0) (vs := cMsg m) (List.prefix_refl _)) ?_
    conv => whnf
    refine ⟨?_, ?_⟩
    · conv => whnf
      refine cl (clone_msgs h (by omega)) ?_
      rintro v w4 ⟨a4, c4, rfl, hx4, ho4, hf4⟩
      conv => whnf
      refine ⟨(hp.ext hx4).cells (off := 0) (vs := cMsg m) (List.prefix_refl _), ?_⟩
      conv => whnf
      refine bs (sz := 6) TryzT_ok ?_
      conv => whnf
      refine ⟨rfl, fun b5 w5 ho5 hs5 hx5 => ?_⟩
      conv => whnf
      refine cl (main l.length (Nat.le_refl _) w5 _ _ ((hx3.trans hx4).trans hx5) (Own.ext ho4 hx5) (fun b hb => by have := hf4 b hb; have := hx3.size; omega) ho5 (fun b hb hb' => by obtain ⟨cc, hk⟩ := ho4.blk hb'; have := hk.lt; simp at hb; omega)) ?_
      rintro v w6 ⟨h6, hx6⟩
      obtain ⟨a6, c6, h7⟩ := h6.isSlice
      rw [h7] at h6 ⊢
      conv => whnf
      exact ⟨h6, hx6⟩
    · conv => whnf
      refine bs (sz := 6) TryzT_ok ?_
      conv => whnf
      refine ⟨rfl, fun b5 w5 ho5 hs5 hx5 => ?_⟩
      conv => whnf
      refine cl (clone_msgs (h.ext hx5) (by omega)) ?_
      rintro v w4 ⟨a4, c4, rfl, hx4, ho4, hf4⟩
      conv => whnf
      refine cl (main l.length (Nat.le_refl _) w4 _ _ ((hx3.trans hx5).trans hx4) ho4 (fun b hb => by have := hf4 b hb; have := (hx3.trans hx5).size; omega) (ho5.ext hx4) (fun b hb hb' => by have := hf4 b hb'; have := (ho5.blk hb).choose_spec.lt; omega)) ?_
      rintro v w6 ⟨h6, hx6⟩
      obtain ⟨a6, c6, h7⟩ := h6.isSlice
      rw [h7] at h6 ⊢
      conv => whnf
      exact ⟨h6, hx6⟩
  · conv => whnf
    refine Cmp.n (by omega) ?_
    rw [if_neg (by omega), Int.toNat_natCast]
    conv => whnf
    refine draw TryzT_ok Tryz_mixed (fun w3 hx3 _ => ?_)
    replace h := h.ext hx3
    replace hp := hp.ext hx3
    conv => whnf
    refine ldLA TryzT_ok (hp.cells (off := 0) (vs := cMsg m) (List.prefix_refl _)) ?_
    conv => whnf
    refine ⟨?_, ?_⟩
    · conv => whnf
      refine cl (clone_msgs h (by omega)) ?_
      rintro v w4 ⟨a4, c4, rfl, hx4, ho4, hf4⟩
      conv => whnf
      refine ⟨(hp.ext hx4).cells (off := 0) (vs := cMsg m) (List.prefix_refl _), ?_⟩
      conv => whnf
      refine bs (sz := 6) TryzT_ok ?_
      conv => whnf
      refine ⟨rfl, fun b5 w5 ho5 hs5 hx5 => ?_⟩
      conv => whnf
      refine cl (main i hi w5 _ _ ((hx3.trans hx4).trans hx5) (Own.ext ho4 hx5) (fun b hb => by have := hf4 b hb; have := hx3.size; omega) ho5 (fun b hb hb' => by obtain ⟨cc, hk⟩ := ho4.blk hb'; have := hk.lt; simp at hb; omega)) ?_
      rintro v w6 ⟨h6, hx6⟩
      obtain ⟨a6, c6, h7⟩ := h6.isSlice
      rw [h7] at h6 ⊢
      conv => whnf
      exact ⟨h6, hx6⟩
    · conv => whnf
      refine bs (sz := 6) TryzT_ok ?_
      conv => whnf
      refine ⟨rfl, fun b5 w5 ho5 hs5 hx5 => ?_⟩
      conv => whnf
      refine cl (clone_msgs (h.ext hx5) (by omega)) ?_
      rintro v w4 ⟨a4, c4, rfl, hx4, ho4, hf4⟩
      conv => whnf
      refine cl (main i hi w4 _ _ ((hx3.trans hx5).trans hx4) ho4 (fun b hb => by have := hf4 b hb; have := (hx3.trans hx5).size; omega) (ho5.ext hx4) (fun b hb hb' => by have := hf4 b hb'; have := (ho5.blk hb).choose_spec.lt; omega)) ?_
      rintro v w6 ⟨h6, hx6⟩
      obtain ⟨a6, c6, h7⟩ := h6.isSlice
      rw [h7] at h6 ⊢
      conv => whnf
      exact ⟨h6, hx6⟩

/-- queue.Cut -/
theorem qu_cut {w : World} {v : Value} {l : List Msg} (h : MsgsR w v l) (hb : l.length ≤ 1000000000) (id : Int) :
    Does Tryz.prog 192 [v, .int .i64 id] w fun u w' => ∃ x, u = .tuple #[x, .bool (qCut l id).2] ∧ MsgsR w' x (qCut l id).1 ∧ Ext w w' := by
  obtain ⟨a, c, rfl⟩ := h.isSlice
  have X := Chg.refl (M := fun _ => False) w
  refine does2 TryzT_ok Tryz.func192 Tryz.call192 Tryz.ntmps192 Tryz.results192 ?_
  conv => whnf
  refine cl (qu_find h (by omega) id) ?_
  rintro v w2 ⟨rfl, hx2⟩
  replace X := X.trans hx2
  replace h := h.ext hx2
  conv => whnf
  refine cl (clone_msgs h (by omega)) ?_
  rintro v w3 ⟨a3, c3, rfl, hx3, ho3, hf3⟩
  replace X := X.trans hx3
  unfold qCut
  conv => whnf
  refine Cmp.dec (fun hj => ?_) (fun hj => ?_)
  · rw [if_pos hj]
    conv => whnf
    exact ⟨_, rfl, ho3.sl, X⟩
  · rw [if_neg hj]
    obtain ⟨hlt, he, _⟩ := qFind_lt hj
    have e1 : qFind l id + 1 = (((qFind l id).toNat + 1 : Nat) : Int) := by omega
    conv => whnf
    refine Ar.i (by omega) ?_
    rw [e1]
    have hd := del_msgs ho3 hlt (by omega)
    rw [← he] at hd
    conv => whnf
    refine cl (hd) ?_
    rintro v w5 ⟨rfl, hi5⟩
    conv => whnf
    refine ⟨_, rfl, ?_, X.then hi5.chg fun y hy => by have := hf3 y hy; have := hx2.size; omega⟩
    have := hi5.own.sl
    rw [flt_take cMsg_len, flt_drop cMsg_len, ← List.flatMap_append, ← List.eraseIdx_eq_take_drop_succ] at this
    show Sl _ _ _ _ _ _
    rw [List.length_eraseIdx_of_lt hlt]; exact this
/-- queue.Claim -/
theorem qu_claim {w : World} {v : Value} {l : List Msg} (h : MsgsR w v l) (hb : l.length ≤ 1000000000) (id : Int) (on : Bool) :
    Does Tryz.prog 194 [v, .int .i64 id, .bool on] w fun u w' => ∃ x, u = .tuple #[x, .bool (qClaim l id on).2] ∧ MsgsR w' x (qClaim l id on).1 ∧ Ext w w' := by
  obtain ⟨a, c, rfl⟩ := h.isSlice
  have X := Chg.refl (M := fun _ => False) w
  refine does2 TryzT_ok Tryz.func194 Tryz.call194 Tryz.ntmps194 Tryz.results194 ?_
  conv => whnf
  refine cl (qu_find h (by omega) id) ?_
  rintro v w2 ⟨rfl, hx2⟩
  replace X := X.trans hx2
  replace h := h.ext hx2
  conv => whnf
  refine cl (clone_msgs h (by omega)) ?_
  rintro v w3 ⟨a3, c3, rfl, hx3, ho3, hf3⟩
  replace X := X.trans hx3
  unfold qClaim
  conv => whnf
  refine Cmp.dec (fun hj => ?_) (fun hj => ?_)
  · rw [if_pos (.inl hj)]
    conv => whnf
    exact ⟨_, rfl, ho3.sl, X⟩
  · obtain ⟨hlt, he, hx⟩ := qFind_lt hj
    have hlen := flt_len (enc := cMsg) cMsg_len l
    have h3 : MsgsR w3 (.slice a3 l.length c3) l := ho3.sl
    obtain ⟨b, o, c', h4⟩ := h3.some (ne_nil_of_lt hlt)
    cases h4
    obtain ⟨ho0, rest, hc4, hbk, hrl⟩ := ho3.opens
    subst ho0
    generalize hm : qAt l id = m at hx
    generalize hi : (qFind l id).toNat = i at hlt he hx
    rw [he]
    have hcs := h3.cells cMsg_len hx
    conv => whnf
    refine ia (sz := 6) TryzT_ok ?_ ?_
    · omega
    conv => whnf
    refine OpR.ldC TryzT_ok (hcs 3 (.bool m.claimed) rfl) ?_
    conv => whnf
    refine eqB TryzT_ok (Cmp.split (fun h5 => ?_) (fun h5 => ?_))
    · have h5 : m.claimed = on := by simpa using h5
      rw [if_pos (.inr h5)]
      conv => whnf
      exact ⟨_, rfl, ho3.sl, X⟩
    · have h5 : ¬ m.claimed = on := by simpa using h5
      rw [if_neg (by intro h; rcases h with h | h; omega; exact h5 h)]
      conv => whnf
      refine ia (sz := 6) TryzT_ok ?_ ?_
      · omega
      conv => whnf
      refine stR0 (v := .bool on) TryzT_ok hbk ?_ (fun w4 hb4 hc4' hs4 => ?_)
      · rw [List.length_append, hlen]; omega
      conv => whnf
      have e2 : (0 : Nat) + (i : Int).toNat * 6 + 3 = i * 6 + 3 := by omega
      rw [e2] at hb4
      have ho4 := ho3.set hc4 hrl hb4 (by rw [hlen]; omega)
      have e3 : (l.flatMap cMsg).set (i * 6 + 3) (.bool on) = (l.set i { m with claimed := on }).flatMap cMsg := by
        rw [← flt_set cMsg_len l i _ hlt]
        have h6 := flt_at cMsg_len hx
        have hd : (l.flatMap cMsg).drop (i * 6) = cMsg m ++ (l.flatMap cMsg).drop (i * 6 + 6) := by
          rw [← List.drop_drop, ← h6, List.take_append_drop]
        unfold splice
        rw [cMsg_len, List.set_eq_take_append_cons_drop, if_pos (by rw [hlen]; omega)]
        have e4 : List.take (i * 6 + 3) (l.flatMap cMsg) = List.take (i * 6) (l.flatMap cMsg) ++ [.int .i64 m.id, .int .i64 m.pri, .int .i64 m.retry] := by
          rw [List.take_add, hd]; rfl
        have e5 : List.drop (i * 6 + 3 + 1) (l.flatMap cMsg) = [.string m.corr, .string m.body] ++ (l.flatMap cMsg).drop (i * 6 + 6) := by
          rw [Nat.add_assoc, ← List.drop_drop, hd]; rfl
        rw [e4, e5]; simp [cMsg]
      rw [e3] at ho4
      have X4 : Ext w w4 := X.then hc4' fun y hy => by
        have := hf3 b (by simp)
        have := hx2.size
        omega
      refine ⟨_, rfl, ?_, X4⟩
      have := ho4.sl
      show Sl _ _ _ _ _ _
      rw [List.length_set]; exact this

/-- queue.Rises -/
theorem qu_rises {w : World} {v : Value} {l : List Msg} (h : MsgsR w v l) (hb : l.length ≤ 1000000000) :
    Does Tryz.prog 180 [v] w fun u w' => u = .bool (qRises l) ∧ Ext w w' := by
  obtain ⟨a, c, rfl⟩ := h.isSlice
  refine does1 TryzT_ok Tryz.func180 Tryz.call180 Tryz.ntmps180 Tryz.results180 ?_
  conv => whnf
  refine mkMap (fun r w1 hm hr hx1 => ?_)
  conv => whnf
  refine Cw.loopD TryzT_ok (ι := Nat) (fun i e w' => i ≤ l.length ∧ (∃ g', e = fr g' [(0, .slice a l.length c), (3, .map (some r)), (7, .slice a l.length c), (8, .int .i64 (l.length : Int)), (9, .int .i64 (i : Int))]) ∧ MapS w' r ((l.take i).map (·.id)) ∧
    qRises l = qRisesG ((l.take i).map (·.id)) (if i = 0 then none else l[i - 1]?) (l.drop i) ∧ Ext w w')
    (fun i => l.length - i) 0 ⟨by omega, mkfr _ ⟨rfl, rfl, rfl, rfl, rfl, trivial⟩, by simpa using MapS.new hm, rfl, hx1⟩ ?_
  rintro i e w2 ⟨hi, ⟨g', rfl⟩, hmm, hq, X⟩
  conv => whnf
  refine Cmp.dec (fun hlt => ?_) (fun hlt => ?_)
  · have hlt : i < l.length := by omega
    obtain ⟨x, hx⟩ := getElem?_lt hlt
    have h1 := h.ext X
    obtain ⟨b, o, c', h4⟩ := h1.some (ne_nil_of_lt hlt)
    cases h4
    rw [drop_cons hx] at hq
    conv => whnf
    refine ia (sz := 6) TryzT_ok ?_ ?_
    · omega
    conv => whnf
    refine ldA TryzT_ok (h1.cells cMsg_len hx) ?_
    conv => whnf
    refine al TryzT_ok ?_
    conv => whnf
    intro p w3a hpa hps hx3a _
    conv => whnf
    refine stA TryzT_ok hpa ?_
    conv => whnf
    intro w3 hp hpc _
    have hx3 : Ext _ w3 := hx3a.then hpc (fun y hy => by omega)
    clear hpa hpc hx3a
    replace X := X.trans hx3
    replace h1 := h1.ext hx3
    replace hmm := hmm.ext hx3
    conv => whnf
    refine draw TryzT_ok Tryz_mixed (fun w4 hx4 _ => ?_)
    replace X := X.trans hx4
    replace h1 := h1.ext hx4
    replace hmm := hmm.ext hx4
    replace hp := hp.ext hx4
    conv => whnf
    refine ldL TryzT_ok hp ?_
    conv => whnf
    refine lkS TryzT_ok hmm ?_
    by_cases hin : x.id ∈ (l.take i).map (·.id)
    · rw [decide_eq_true hin]
      conv => whnf
      refine ⟨?_, X⟩
      rw [hq]; unfold qRisesG; rw [decide_eq_true hin]; rfl
    · rw [decide_eq_false hin]
      have next : ∀ e w5, qRises l = qRisesG ((l.take i).map (·.id) ++ [x.id]) (some x) (l.drop (i + 1)) → MapS w5 r ((l.take i).map (·.id) ++ [x.id]) → Ext w w5 → (∃ g', e = fr g' [(0, .slice (some ⟨b, o, none⟩) l.length c), (3, .map (some r)), (7, .slice (some ⟨b, o, none⟩) l.length c), (8, .int .i64 (l.length : Int)), (9, .int .i64 ((i : Int) + 1))]) →
          ∃ y, (y ≤ l.length ∧ (∃ g', e = fr g' [(0, .slice (some ⟨b, o, none⟩) l.length c), (3, .map (some r)), (7, .slice (some ⟨b, o, none⟩) l.length c), (8, .int .i64 (l.length : Int)), (9, .int .i64 (y : Int))]) ∧ MapS w5 r ((l.take y).map (·.id)) ∧
            qRises l = qRisesG ((l.take y).map (·.id)) (if y = 0 then none else l[y - 1]?) (l.drop y) ∧ Ext w w5) ∧ l.length - y < l.length - i := by
        intro e w5 h1 h2 h3 h4
        refine ⟨i + 1, ⟨by omega, h4, ?_, ?_, h3⟩, by omega⟩
        · rw [take_snoc hx, List.map_append]; exact h2
        · rw [take_snoc hx, List.map_append, if_neg (by omega), Nat.add_sub_cancel, hx]; exact h1
      conv => whnf
      refine Cmp.dec (fun h5 => ?_) (fun h5 => ?_)
      · have hi0 : i ≠ 0 := by omega
        obtain ⟨y, hy⟩ := getElem?_lt (show i - 1 < l.length by omega)
        rw [if_neg hi0, hy] at hq
        conv => whnf
        refine Ar.i (by omega) ?_
        conv => whnf
        refine ia (sz := 6) TryzT_ok ?_ ?_
        · omega
        have e1 : ((i : Int) - 1).toNat = i - 1 := by omega
        rw [e1]
        conv => whnf
        refine ldLA TryzT_ok (h1.cells cMsg_len hy) ?_
        conv => whnf
        refine ldLA TryzT_ok (hp.cells (off := 0) (vs := cMsg x) (List.prefix_refl _)) ?_
        conv => whnf
        refine cl (or_msgs w4 y x) ?_
        rintro v w5 ⟨rfl, hx5⟩
        replace X := X.trans hx5
        replace h1 := h1.ext hx5
        replace hmm := hmm.ext hx5
        replace hp := hp.ext hx5
        conv => whnf
        refine Cmp.dec (fun h6 => ?_) (fun h6 => ?_)
        · conv => whnf
          refine ⟨?_, X⟩
          rw [hq]; unfold qRisesG
          simp only [decide_eq_false (show ¬ mcmp y x < 0 by omega), Bool.and_false, Bool.false_and]
        · conv => whnf
          refine ld TryzT_ok hp ?_
          conv => whnf
          refine muS TryzT_ok hmm hin (fun w6 hm6 hc6 hs6 => ?_)
          conv => whnf
          refine Ar.i (by omega) ?_
          conv => whnf
          refine next _ w6 ?_ hm6 (X.then hc6 fun z hz => by omega) ?_
          rotate_left
          · exact mkfr _ ⟨rfl, rfl, rfl, rfl, rfl, trivial⟩
          rw [hq]; conv => lhs; unfold qRisesG
          simp only [decide_eq_false hin, decide_eq_true (show mcmp y x < 0 by omega), Bool.not_false, Bool.true_and]
      · have hi0 : i = 0 := by omega
        rw [if_pos hi0] at hq
        conv => whnf
        refine ld TryzT_ok hp ?_
        conv => whnf
        refine muS TryzT_ok hmm hin (fun w6 hm6 hc6 hs6 => ?_)
        conv => whnf
        refine Ar.i (by omega) ?_
        conv => whnf
        refine next _ w6 ?_ hm6 (X.then hc6 fun z hz => by omega) ?_
        rotate_left
        · exact mkfr _ ⟨rfl, rfl, rfl, rfl, rfl, trivial⟩
        rw [hq]; conv => lhs; unfold qRisesG
        simp only [decide_eq_false hin, Bool.not_false, Bool.true_and]
  · have : i = l.length := by omega
    subst this
    conv => whnf
    refine ⟨?_, X⟩
    rw [hq, List.drop_length]; rfl

theorem ms_tried (w : World) (m : Msg) (limit : Int) (hm : -1000 ≤ m.retry ∧ m.retry ≤ 100000) :
    Does Tryz.prog 216 [.agg ⟨cMsg m⟩, .int .i64 limit] w fun v w' => v = .tuple #[.agg ⟨cMsg (mTried m limit).1⟩, .bool (mTried m limit).2] ∧ Ext w w' := by
  refine doesC2 TryzT_ok Tryz.func216 Tryz.call216 Tryz.ntmps216 Tryz.results216 ?_
  conv => whnf
  refine bx ?_
  conv => whnf
  intro p w1 hp hs1 hx1 _
  conv => whnf
  refine al TryzT_ok ?_
  conv => whnf
  intro q w2 hq hs2 hx2 _
  have X := hx1.trans hx2
  conv => whnf
  refine st TryzT_ok (hp.ext hx2) ?_
  conv => whnf
  intro w3 hp3 hc3 hs3
  have hq3 := hq.chg hc3 (by show ¬ q = p; have := hx1.size; have := hp.lt; omega)
  conv => whnf
  refine ld TryzT_ok hp3 ?_
  conv => whnf
  refine Ar.i (by omega) ?_
  conv => whnf
  refine st TryzT_ok hp3 ?_
  conv => whnf
  intro w4 hp4 hc4 hs4
  have hq4 := hq3.chg hc4 (by show ¬ q = p; have := hx1.size; have := hp.lt; omega)
  conv => whnf
  refine draw TryzT_ok Tryz_mixed (fun w5 hx5 _ => ?_)
  have hp5 := hp4.ext hx5
  have hq5 := hq4.ext hx5
  conv => whnf
  refine ldLA TryzT_ok (hp5.cells (off := 0) (vs := cMsg (mTried m limit).1) (List.prefix_refl _)) ?_
  conv => whnf
  refine ldL TryzT_ok hp5 ?_
  conv => whnf
  refine Cmp.keep ?_
  conv => whnf
  refine stA TryzT_ok hq5 ?_
  conv => whnf
  intro w6 hq6 hc6 hs6
  have hp6 := hp5.chg hc6 (by show ¬ p = q; have := hx1.size; have := hp.lt; omega)
  conv => whnf
  refine ⟨hp6.cell 2, ?_⟩
  conv => whnf
  refine ⟨_, hq6.cells (off := 0) (vs := cMsg (mTried m limit).1) (List.prefix_refl _), rfl, ?_⟩
  conv => whnf
  refine ⟨rfl, ?_⟩
  exact (((X.then hc3 fun y hy => by omega).then hc4 fun y hy => by omega).trans hx5).then hc6 fun y hy => by have := hx1.size; omega
end Go.Pst

namespace Go.Pst
open Go Go.Proofs

/-- cells of an object -/
def cObj (o : Obj) (a1 : Option Addr) (c1 : Nat) (a2 : Option Addr) (c2 : Nat) (a3 : Option Addr) (c3 : Nat) : List Value :=
  [.string o.name, .int .i64 o.kind, .int .i64 o.limit, .slice a1 o.rows.length c1, .slice a2 o.msgs.length c2, .slice a3 o.dead.length c3]
structure ObjP (w : World) (o : Obj) (a1 : Option Addr) (c1 : Nat) (a2 : Option Addr) (c2 : Nat) (a3 : Option Addr) (c3 : Nat) : Prop where
  rows : RowsR w (.slice a1 o.rows.length c1) o.rows
  msgs : MsgsR w (.slice a2 o.msgs.length c2) o.msgs
  dead : MsgsR w (.slice a3 o.dead.length c3) o.dead
theorem ObjP.ext {w w' : World} {o : Obj} {a1 c1 a2 c2 a3 c3} (h : ObjP w o a1 c1 a2 c2 a3 c3) (hx : Ext w w') : ObjP w' o a1 c1 a2 c2 a3 c3 := ⟨h.rows.ext hx, h.msgs.ext hx, h.dead.ext hx⟩
/-- c are the cells of object o -/
def ObjC (w : World) (c : List Value) (o : Obj) : Prop := ∃ a1 c1 a2 c2 a3 c3, c = cObj o a1 c1 a2 c2 a3 c3 ∧ ObjP w o a1 c1 a2 c2 a3 c3
theorem ObjC.ext {w w' : World} {c : List Value} {o : Obj} (h : ObjC w c o) (hx : Ext w w') : ObjC w' c o := by
  obtain ⟨a1, c1, a2, c2, a3, c3, h1, h2⟩ := h; exact ⟨a1, c1, a2, c2, a3, c3, h1, h2.ext hx⟩
theorem ObjC.kp {w w' : World} {c : List Value} {o : Obj} (h : ObjC w c o) (h1 : Kp 120 w w') (h2 : Kp 33 w w') : ObjC w' c o := by
  obtain ⟨a1, c1, a2, c2, a3, c3, h3, h4⟩ := h; exact ⟨a1, c1, a2, c2, a3, c3, h3, h4.rows.kp h1, h4.msgs.kp h2, h4.dead.kp h2⟩
theorem ObjC.len {w : World} {c : List Value} {o : Obj} (h : ObjC w c o) : c.length = 6 := by
  obtain ⟨a1, c1, a2, c2, a3, c3, rfl, _⟩ := h; rfl
/-- dead.clone -/
theorem dd_clone {w : World} {o : Obj} {a1 c1 a2 c2 a3 c3} (h : ObjP w o a1 c1 a2 c2 a3 c3) (hb : OB 1000000000 o) :
    Does Tryz.prog 215 [.agg ⟨cObj o a1 c1 a2 c2 a3 c3⟩] w fun v w' => ∃ a1 c1 a2 c2 a3 c3, v = .agg ⟨cObj o a1 c1 a2 c2 a3 c3⟩ ∧ Os w' (.slice a1 o.rows.length c1) 120 2 cRow o.rows ∧
      Os w' (.slice a2 o.msgs.length c2) 33 6 cMsg o.msgs ∧ Os w' (.slice a3 o.dead.length c3) 33 6 cMsg o.dead ∧ Ext w w' ∧
      (∀ b, blkOf (.slice a2 o.msgs.length c2) b → w.heap.size ≤ b) ∧ (∀ b, blkOf (.slice a3 o.dead.length c3) b → w.heap.size ≤ b) ∧ (∀ b, blkOf (.slice a2 o.msgs.length c2) b → ¬ blkOf (.slice a3 o.dead.length c3) b) := by
  have b1 := hb.rows
  have b2 := hb.msgs
  have b3 := hb.dead
  have X := Chg.refl (M := fun _ => False) w
  refine doesC1 TryzT_ok Tryz.func215 Tryz.call215 Tryz.ntmps215 Tryz.results215 ?_
  conv => whnf
  refine bx ?_
  conv => whnf
  intro p w1 hp hs1 hx1 _
  replace X := X.trans hx1
  replace h := h.ext hx1
  conv => whnf
  refine al TryzT_ok ?_
  conv => whnf
  intro q w2 hq hs2 hx2 _
  replace X := X.trans hx2
  replace h := h.ext hx2
  replace hp := hp.ext hx2
  conv => whnf
  refine draw TryzT_ok Tryz_mixed (fun w3 hx3 _ => ?_)
  replace X := X.trans hx3
  replace h := h.ext hx3
  replace hp := hp.ext hx3
  replace hq := hq.ext hx3
  conv => whnf
  refine ldL TryzT_ok hp ?_
  conv => whnf
  refine ldL TryzT_ok hp ?_
  conv => whnf
  refine ldL TryzT_ok hp ?_
  conv => whnf
  refine cl (clone_rows h.rows (by omega)) ?_
  rintro v w4 ⟨x1, y1, rfl, hx4, ho4, hf4⟩
  replace X := X.trans hx4
  replace h := h.ext hx4
  replace hp := hp.ext hx4
  replace hq := hq.ext hx4
  conv => whnf
  refine ⟨hp.cell 5, hp.cell 4, ?_⟩
  conv => whnf
  refine cl (clone_msgs h.msgs (by omega)) ?_
  rintro v w5 ⟨x2, y2, rfl, hx5, ho5, hf5⟩
  replace X := X.trans hx5
  replace h := h.ext hx5
  replace hp := hp.ext hx5
  replace hq := hq.ext hx5
  replace ho4 := ho4.ext hx5
  conv => whnf
  refine ⟨hp.cell 5, ?_⟩
  conv => whnf
  refine cl (clone_msgs h.dead (by omega)) ?_
  rintro v w6 ⟨x3, y3, rfl, hx6, ho6, hf6⟩
  have hlt5 : ∀ b, blkOf (.slice x2 o.msgs.length y2) b → b < w5.heap.size := fun b hb => (ho5.blk hb).choose_spec.lt
  replace X := X.trans hx6
  replace h := h.ext hx6
  replace hp := hp.ext hx6
  replace hq := hq.ext hx6
  replace ho4 := ho4.ext hx6
  replace ho5 := ho5.ext hx6
  have hpq : p < q := by have := hx1.size; omega
  have hw2 : w2.heap.size ≤ w4.heap.size := Nat.le_trans hx3.size hx4.size
  have hw3 : w2.heap.size ≤ w3.heap.size := hx3.size
  have hw5 : w4.heap.size ≤ w5.heap.size := hx5.size
  have hap : ∀ b, blkOf (.slice x2 o.msgs.length y2) b → ¬ blkOf (.slice x3 o.dead.length y3) b := by
    intro b hb hb'
    have := hf6 b hb'
    have := hlt5 b hb
    omega
  conv => whnf
  refine st TryzT_ok hp ?_
  conv => whnf
  intro w7 hp7 hc7 hs7
  conv => whnf
  refine st TryzT_ok hp7 ?_
  conv => whnf
  intro w8 hp8 hc8 hs8
  conv => whnf
  refine st TryzT_ok hp8 ?_
  conv => whnf
  intro w9 hp9 hc9 hs9
  have hc : Chg (· = p) w6 w9 := (hc7.trans hc8).trans hc9
  have hq9 := hq.chg hc (by show ¬ q = p; omega)
  conv => whnf
  refine ldA TryzT_ok (hp9.cells (off := 0) (vs := cObj o x1 y1 x2 y2 x3 y3) (List.prefix_refl _)) ?_
  conv => whnf
  refine stA TryzT_ok hq9 ?_
  conv => whnf
  intro w10 hq10 hc10 hs10
  have hne : ∀ (v : Value) E sz n cs, Own w6 v E sz n cs → E ≠ 45 → Own w10 v E sz n cs := fun v E sz n cs ho hE =>
    (ho.kp (hc.kpb hp hE)).kp (hc10.kpb hq9 hE)
  conv => whnf
  refine ⟨_, hq10.cells (off := 0) (vs := cObj o x1 y1 x2 y2 x3 y3) (List.prefix_refl _), rfl, ?_⟩
  refine ⟨x1, y1, x2, y2, x3, y3, rfl, hne _ _ _ _ _ ho4 (by decide), hne _ _ _ _ _ ho5 (by decide), hne _ _ _ _ _ ho6 (by decide), ?_, fun b hb => ?_, fun b hb => ?_, hap⟩
  · exact (X.then hc fun y hy => by omega).then hc10 fun y hy => by have := hx1.size; omega
  · have := hf5 b hb; have := hx1.size; have := hx2.size; omega
  · have := hf6 b hb; have := hx1.size; have := hx2.size; omega

theorem dd_where {w : World} {c : List Value} {o : Obj} (h : ObjC w c o) (hb : OB 1000000000 o) (id : Int) :
    Does Tryz.prog 225 [.agg ⟨c⟩, .int .i64 id] w fun v w' => v = .int .i64 (oWhere o id) ∧ Ext w w' := by
  obtain ⟨a1, c1, a2, c2, a3, c3, rfl, h⟩ := h
  have b2 := hb.msgs
  have b3 := hb.dead
  have X := Chg.refl (M := fun _ => False) w
  refine does1 TryzT_ok Tryz.func225 Tryz.call225 Tryz.ntmps225 Tryz.results225 ?_
  conv => whnf
  refine bx ?_
  conv => whnf
  intro p w1 hp hs1 hx1 _
  replace X := X.trans hx1
  replace h := h.ext hx1
  conv => whnf
  refine ld TryzT_ok hp ?_
  conv => whnf
  refine cl (qu_find h.msgs (by omega) id) ?_
  rintro v w2 ⟨rfl, hx2⟩
  replace X := X.trans hx2
  replace h := h.ext hx2
  replace hp := hp.ext hx2
  unfold oWhere
  conv => whnf
  refine Cmp.dec (fun h1 => ?_) (fun h1 => ?_)
  · rw [if_pos h1]
    conv => whnf
    exact ⟨rfl, X⟩
  rw [if_neg h1]
  conv => whnf
  refine ld TryzT_ok hp ?_
  conv => whnf
  refine cl (qu_find h.dead (by omega) id) ?_
  rintro v w3 ⟨rfl, hx3⟩
  replace X := X.trans hx3
  conv => whnf
  refine Cmp.dec (fun h2 => ?_) (fun h2 => ?_)
  · rw [if_pos h2]
    conv => whnf
    exact ⟨rfl, X⟩
  · rw [if_neg h2]
    conv => whnf
    exact ⟨rfl, X⟩

theorem cMsg_set3 {l : List Msg} {i : Nat} {m : Msg} (hx : l[i]? = some m) {on : Bool} : (l.flatMap cMsg).set (i * 6 + 3) (.bool on) = splice (l.flatMap cMsg) (i * 6) (cMsg { m with claimed := on }) := by
  have hlen := flt_len (enc := cMsg) cMsg_len l
  have hlt := lt_of_getElem? hx
  have h6 := flt_at cMsg_len hx
  have hd : (l.flatMap cMsg).drop (i * 6) = cMsg m ++ (l.flatMap cMsg).drop (i * 6 + 6) := by
    rw [← List.drop_drop, ← h6, List.take_append_drop]
  unfold splice
  rw [cMsg_len, List.set_eq_take_append_cons_drop, if_pos (by rw [hlen]; omega)]
  have e4 : List.take (i * 6 + 3) (l.flatMap cMsg) = List.take (i * 6) (l.flatMap cMsg) ++ [.int .i64 m.id, .int .i64 m.pri, .int .i64 m.retry] := by
    rw [List.take_add, hd]; rfl
  have e5 : List.drop (i * 6 + 3 + 1) (l.flatMap cMsg) = [.string m.corr, .string m.body] ++ (l.flatMap cMsg).drop (i * 6 + 6) := by
    rw [Nat.add_assoc, ← List.drop_drop, hd]; rfl
  rw [e4, e5]; simp [cMsg]
theorem splice_app {cs rest vs : List Value} {j : Nat} (h : j + vs.length ≤ cs.length) : splice (cs ++ rest) j vs = splice cs j vs ++ rest := by
  unfold splice
  rw [List.take_append_of_le_length (by omega), List.drop_append_of_le_length (by omega)]
  simp [List.append_assoc]
theorem cells6 {w : World} {p : Nat} {E : TypeId} {o : Obj} {a1 c1 a2 c2 a3 c3} (h : Blk w p E (cObj o a1 c1 a2 c2 a3 c3)) : Cells w p 0 (cObj o a1 c1 a2 c2 a3 c3) := h.cells (List.prefix_refl _)

/-- dead.Free -/
theorem dd_free {w : World} {c : List Value} {o : Obj} (h : ObjC w c o) (hb : OB 1000000000 o) (id : Int) (tried : Bool) :
    Does Tryz.prog 195 [.agg ⟨c⟩, .int .i64 id, .bool tried] w fun v w' => ∃ c', v = .tuple #[.agg ⟨c'⟩, .bool (oFree o id tried).2] ∧ ObjC w' c' (oFree o id tried).1 ∧ Ext w w' := by
  obtain ⟨a1, c1, a2, c2, a3, c3, rfl, h⟩ := h
  have b1 := hb.rows
  have b2 := hb.msgs
  have b3 := hb.dead
  have X := Chg.refl (M := fun _ => False) w
  refine doesC2 TryzT_ok Tryz.func195 Tryz.call195 Tryz.ntmps195 Tryz.results195 ?_
  conv => whnf
  refine bx ?_
  conv => whnf
  intro p w1 hp hs1 hx1 _
  replace X := X.trans hx1
  replace h := h.ext hx1
  conv => whnf
  refine al TryzT_ok ?_
  conv => whnf
  intro q w2 hq hs2 hx2 _
  replace X := X.trans hx2
  replace h := h.ext hx2
  replace hp := hp.ext hx2
  have hpq : p < q := by have := hx1.size; have := hx2.size; have := hp.lt; omega
  conv => whnf
  refine ldA TryzT_ok (cells6 hp) ?_
  conv => whnf
  refine cl (dd_clone h hb) ?_
  rintro v w3 ⟨x1, y1, x2, y2, x3, y3, rfl, ho1, ho2, ho3, hx3, hf2, hf3, hap⟩
  replace X := X.trans hx3
  replace hp := hp.ext hx3
  replace hq := hq.ext hx3
  have hsz3 : w2.heap.size ≤ w3.heap.size := hx3.size
  clear h
  conv => whnf
  refine stA TryzT_ok hp ?_
  conv => whnf
  intro w4 hp4 hc4 hs4
  have hq4 := hq.chg hc4 (by show ¬ q = p; omega)
  have X4 : Ext w w4 := X.then hc4 fun y hy => by omega
  have ho1 := ho1.kp (hc4.kpb hp (by decide))
  have ho2 := ho2.kp (hc4.kpb hp (by decide))
  have ho3 := ho3.kp (hc4.kpb hp (by decide))
  clear hp hq X hc4
  conv => whnf
  refine ld TryzT_ok hp4 ?_
  conv => whnf
  refine cl (qu_find ho2.ls (by omega) id) ?_
  rintro v w5 ⟨rfl, hx5⟩
  replace X4 := X4.trans hx5
  replace hp4 := hp4.ext hx5
  replace hq4 := hq4.ext hx5
  replace ho1 := ho1.ext hx5
  replace ho2 := ho2.ext hx5
  replace ho3 := ho3.ext hx5
  have hsz5 : w4.heap.size ≤ w5.heap.size := hx5.size
  -- the way back, with an object of one's own
  have ret : ∀ (o' : Obj) (b : Bool) (w6 : World) a1 c1 a2 c2 a3 c3, Blk w6 p 45 (cObj o' a1 c1 a2 c2 a3 c3) → ObjP w6 o' a1 c1 a2 c2 a3 c3 → (∃ cs, Blk w6 q 45 cs ∧ cs.length = 6) → Ext w w6 → (o', b) = oFree o id tried →
      ∀ w7, Blk w7 q 45 (cObj o' a1 c1 a2 c2 a3 c3) → Chg (· = q) w6 w7 → ∃ c', Value.tuple #[.agg ⟨cObj o' a1 c1 a2 c2 a3 c3⟩, .bool b] = .tuple #[.agg ⟨c'⟩, .bool (oFree o id tried).2] ∧ ObjC w7 c' (oFree o id tried).1 ∧ Ext w w7 := by
    intro o' b w6 a1 c1 a2 c2 a3 c3 h1 h2 h3 X6 he w7 h4 h5
    obtain ⟨cs, h3, _⟩ := h3
    rw [← he]
    exact ⟨_, rfl, ⟨a1, c1, a2, c2, a3, c3, rfl, h2.rows.kp (h5.kpb h3 (by decide)), h2.msgs.kp (h5.kpb h3 (by decide)), h2.dead.kp (h5.kpb h3 (by decide))⟩, X6.then h5 fun y hy => by have := X6.size; omega⟩
  have no : qFind o.msgs id < 0 ∨ (qAt o.msgs id).claimed = false → (o, false) = oFree o id tried := fun h => by unfold oFree; rw [if_pos h]
  conv => whnf
  refine Cmp.dec (fun hj => ?_) (fun hj => ?_)
  · conv => whnf
    refine ldA TryzT_ok (cells6 hp4) ?_
    conv => whnf
    refine stA TryzT_ok hq4 ?_
    conv => whnf
    intro w6 hq6 hc6 hs6
    conv => whnf
    refine ⟨_, cells6 hq6, rfl, ?_⟩
    exact ret o false w5 x1 y1 x2 y2 x3 y3 hp4 ⟨ho1.ls, ho2.ls, ho3.ls⟩ ⟨_, hq4, rfl⟩ X4 (no (.inl hj)) w6 hq6 hc6
  obtain ⟨hlt, he, hx⟩ := qFind_lt hj
  have hlen := flt_len (enc := cMsg) cMsg_len o.msgs
  have h3 : MsgsR w5 (.slice x2 o.msgs.length y2) o.msgs := ho2.ls
  obtain ⟨b, of, c', h4⟩ := h3.some (ne_nil_of_lt hlt)
  cases h4
  obtain ⟨ho0, rest, hc4, hbk, hrl⟩ := Own.opens ho2
  subst ho0
  have hbge : w2.heap.size ≤ b := hf2 b (by simp)
  have hqb : q < w2.heap.size := by omega
  generalize hm : qAt o.msgs id = m at hx no
  have hF : oFree o id tried = (if qFind o.msgs id < 0 ∨ m.claimed = false then (o, false)
    else if tried = false then ({ o with msgs := o.msgs.set (qFind o.msgs id).toNat { m with claimed := false } }, true)
    else if (mTried m o.limit).2 then ({ o with msgs := o.msgs.eraseIdx (qFind o.msgs id).toNat, dead := o.dead ++ [(mTried m o.limit).1] }, true)
    else ({ o with msgs := o.msgs.set (qFind o.msgs id).toNat (mTried m o.limit).1 }, true)) := by subst hm; rfl
  rw [he] at hF hj ⊢
  generalize hi : (qFind o.msgs id).toNat = i at hlt hx hF hj ⊢
  rw [Int.toNat_natCast] at hF
  have hmm : m ∈ o.msgs := List.mem_of_getElem? hx
  have hret := hb.retry m hmm
  have hcs := h3.cells cMsg_len hx
  conv => whnf
  refine ld TryzT_ok hp4 ?_
  conv => whnf
  refine ia (sz := 6) TryzT_ok ?_ ?_
  · omega
  conv => whnf
  refine OpR.ldC TryzT_ok (hcs 3 (.bool m.claimed) rfl) ?_
  cases hcl : m.claimed with
  | false =>
    conv => whnf
    refine ldA TryzT_ok (cells6 hp4) ?_
    conv => whnf
    refine stA TryzT_ok hq4 ?_
    conv => whnf
    intro w6 hq6 hc6 hs6
    conv => whnf
    refine ⟨_, cells6 hq6, rfl, ?_⟩
    exact ret o false w5 x1 y1 _ y2 x3 y3 hp4 ⟨ho1.ls, h3, ho3.ls⟩ ⟨_, hq4, rfl⟩ X4 (no (.inr hcl)) w6 hq6 hc6
  | true =>
    rw [if_neg (by rw [hcl]; intro h; rcases h with h | h; omega; cases h)] at hF
    have setM : ∀ (m' : Msg) (w6 : World), Blk w6 b 33 (splice (o.msgs.flatMap cMsg ++ rest) (i * 6) (cMsg m')) → Chg (· = b) w5 w6 →
        Os w6 (.slice (some ⟨b, 0, none⟩) o.msgs.length y2) 33 6 cMsg (o.msgs.set i m') ∧ Os w6 (.slice x1 o.rows.length y1) 120 2 cRow o.rows ∧ Os w6 (.slice x3 o.dead.length y3) 33 6 cMsg o.dead ∧ Blk w6 p 45 (cObj o x1 y1 (some ⟨b, 0, none⟩) y2 x3 y3) ∧ Ext w w6 := by
      intro m' w6 hb6 hc6
      have ho6 := Own.splice ho2 hc4 hrl hb6 (by rw [hlen]; simp only [cMsg_len]; omega)
      rw [flt_set cMsg_len o.msgs i _ hlt] at ho6
      refine ⟨?_, ho1.kp (hc6.kpb hbk (by decide)), Own.chg ho3 hc6 (fun z hz hzb => hap b (by simp) (hzb ▸ hz)), hp4.chg hc6 (by show ¬ p = b; omega), X4.then hc6 fun y hy => by have := hx1.size; have := hx2.size; omega⟩
      show Own _ _ _ _ _ _
      rw [List.length_set]; exact ho6
    cases htr : tried with
    | false =>
      subst htr
      rw [if_pos rfl] at hF
      conv => whnf
      refine ld TryzT_ok hp4 ?_
      conv => whnf
      refine ia (sz := 6) TryzT_ok ?_ ?_
      · omega
      conv => whnf
      refine stR0 (v := .bool false) TryzT_ok hbk ?_ (fun w6 hb6 hc6 hs6 => ?_)
      · rw [List.length_append, hlen]; omega
      have e2 : (0 : Nat) + (i : Int).toNat * 6 + 3 = i * 6 + 3 := by omega
      rw [e2, List.set_append_left _ _ (by rw [hlen]; omega), cMsg_set3 hx] at hb6
      rw [← splice_app (by rw [hlen]; simp only [cMsg_len]; omega)] at hb6
      obtain ⟨ho2', ho1', ho3', hp6, X6⟩ := setM _ w6 hb6 hc6
      have hq6 := hq4.chg hc6 (by show ¬ q = b; omega)
      conv => whnf
      refine ldA TryzT_ok (cells6 hp6) ?_
      conv => whnf
      refine stA TryzT_ok hq6 ?_
      conv => whnf
      intro w7 hq7 hc7 hs7
      have hl6 : (o.msgs.set i { m with claimed := false }).length = o.msgs.length := List.length_set
      conv => whnf
      refine ⟨_, cells6 hq7, rfl, ?_⟩
      have := ret { o with msgs := o.msgs.set i { m with claimed := false } } true w6 x1 y1 (some ⟨b, 0, none⟩) y2 x3 y3 (by unfold cObj; simp only [hl6]; exact hp6) ⟨ho1'.ls, by have := ho2'.ls; simp only [hl6] at this ⊢; exact this, ho3'.ls⟩ ⟨_, hq6, rfl⟩ X6 hF.symm w7 (by unfold cObj; simp only [hl6]; exact hq7) hc7
      unfold cObj at this
      simp only [hl6] at this
      exact this
    | true =>
      subst htr
      rw [if_neg (by decide)] at hF
      conv => whnf
      refine draw TryzT_ok Tryz_mixed (fun w6 hx6 _ => ?_)
      have hp6 := hp4.ext hx6
      have hq6 := hq4.ext hx6
      have hcs6 := (h3.ext hx6).cells cMsg_len hx
      conv => whnf
      refine ldL TryzT_ok hp6 ?_
      conv => whnf
      refine ia (sz := 6) TryzT_ok ?_ ?_
      · omega
      conv => whnf
      refine ldLA TryzT_ok hcs6 ?_
      conv => whnf
      refine ldL TryzT_ok hp6 ?_
      conv => whnf
      refine ⟨?_, ?_⟩
      · conv => whnf
        refine cl (ms_tried w6 m o.limit (by omega)) ?_
        rintro v w7 ⟨rfl, hx7⟩
        conv => whnf
        refine al TryzT_ok ?_
        conv => whnf
        intro r w8 hr hs8 hx8 _
        have hr6 : w6.heap.size ≤ r := hs8 ▸ hx7.size
        have X8 : Ext w5 w8 := (hx6.trans hx7).trans hx8
        have hw56 : w5.heap.size ≤ w6.heap.size := hx6.size
        clear hp6 hq6 hcs6
        conv => whnf
        refine stA TryzT_ok hr ?_
        conv => whnf
        intro w9 hr9 hc9 hs9
        have hrp : p ≠ r := by omega
        have hrq : q ≠ r := by omega
        have hrb : b ≠ r := by have := hbk.lt; omega
        have hp9 := (hp4.ext X8).chg hc9 hrp
        have hq9 := (hq4.ext X8).chg hc9 hrq
        have X9 : Ext w5 w9 := X8.then hc9 fun y hy => by omega
        have hbk9 := hbk.ext X9
        have ho2' : Own w9 (.slice (some ⟨b, 0, none⟩) o.msgs.length y2) 33 6 o.msgs.length (o.msgs.flatMap cMsg) := Own.ext ho2 X9
        have ho1' := ho1.ext X9
        have ho3' := ho3.ext X9
        have Xw : Ext w w9 := X4.trans X9
        have hsz9 : w5.heap.size ≤ w9.heap.size := X9.size
        clear X8 X9 hr
        cases hgo : (mTried m o.limit).2 with
        | true =>
          rw [hgo, if_pos rfl] at hF
          conv => whnf
          refine ld TryzT_ok hp9 ?_
          conv => whnf
          refine Ar.i (by omega) ?_
          have e1 : (i : Int) + 1 = ((i + 1 : Nat) : Int) := by omega
          rw [e1]
          conv => whnf
          refine cl (del_msgs ho2' hlt (by omega)) ?_
          rintro v w10 ⟨rfl, hi10⟩
          have hch : Chg (· = b) w9 w10 := hi10.chg.mono fun y _ hy => by simp at hy; omega
          have hp10 := hp9.chg hch (by show ¬ p = b; omega)
          have hq10 := hq9.chg hch (by show ¬ q = b; omega)
          have hr10 := hr9.chg hch (by show ¬ r = b; omega)
          have ho1'' := ho1'.kp (hch.kpb hbk9 (by decide))
          have ho3'' := Own.chg ho3' hch (fun z hz hzb => hap b (by simp) (hzb ▸ hz))
          have X10 : Ext w w10 := Xw.then hch fun y hy => by omega
          conv => whnf
          refine st TryzT_ok hp10 ?_
          conv => whnf
          intro w11 hp11 hc11 hs11
          conv => whnf
          refine ld TryzT_ok hp11 ?_
          have kM := hc11.kpb hp10 (E' := 33) (by decide)
          have kR := hc11.kpb hp10 (E' := 120) (by decide)
          conv => whnf
          refine ldA TryzT_ok ((hr10.kp kM).cells (off := 0) (vs := cMsg (mTried m o.limit).1) (List.prefix_refl _)) ?_
          conv => whnf
          refine bs (sz := 6) TryzT_ok ?_
          conv => whnf
          refine ⟨rfl, fun b12 w12 ho12 hs12 hx12 => ?_⟩
          have ho3x := (ho3''.kp kM).ext hx12
          conv => whnf
          refine ap TryzT_ok ho3x ho12.sl (by omega) (fun a13 c13 w13 hapd => ?_)
          have h13 : ∀ y, blkOf (.slice x3 o.dead.length y3) y → y ≠ b ∧ w2.heap.size ≤ y := fun y hy => ⟨fun e => hap b (by simp) (e ▸ hy), hf3 y hy⟩
          have hp13 := (hp11.ext hx12).kp (hapd.kp ho3x (by decide))
          have hq13 := ((hq10.chg hc11 (by show ¬ q = p; omega)).ext hx12).kp (hapd.kp ho3x (by decide))
          conv => whnf
          refine st TryzT_ok hp13 ?_
          conv => whnf
          intro w14 hp14 hc14 hs14
          have kM14 := hc14.kpb hp13 (E' := 33) (by decide)
          have kR14 := hc14.kpb hp13 (E' := 120) (by decide)
          have hq14 := hq13.chg hc14 (by show ¬ q = p; omega)
          have X14 : Ext w w14 := (((X10.then hc11 fun y hy => by omega).trans hx12).then hapd.chg fun y hy => by have := h13 y hy; omega).then hc14 fun y hy => by omega
          have hm14 : MsgsR w14 (.slice (some ⟨b, 0, none⟩) (o.msgs.length - 1) y2) (o.msgs.eraseIdx i) := by
            have h20 := hi10.own
            rw [flt_take cMsg_len, flt_drop cMsg_len, ← List.flatMap_append, ← List.eraseIdx_eq_take_drop_succ] at h20
            have h21 := ((Own.ext (h20.kp kM) hx12).chg hapd.chg (fun y hy hy2 => by have := h13 y hy2; simp at hy; omega)).kp kM14
            show Sl _ _ _ _ _ _
            rw [List.length_eraseIdx_of_lt hlt]; exact h21.sl
          have hd14 : MsgsR w14 (.slice a13 (o.dead.length + 1) c13) (o.dead ++ [(mTried m o.limit).1]) := by
            have h21 := (hapd.own.kp kM14).sl
            show Sl _ _ _ _ _ _
            rw [List.length_append, List.flatMap_append]
            have e : List.flatMap cMsg [(mTried m o.limit).1] = cMsg (mTried m o.limit).1 := by simp
            rw [e]; exact h21
          have hr14 : RowsR w14 (.slice x1 o.rows.length y1) o.rows := (((ho1''.kp kR).ext hx12).kp (hapd.kp ho3x (by decide))).ls.kp kR14
          conv => whnf
          refine ldA TryzT_ok (hp14.cells (off := 0) (List.prefix_refl _)) ?_
          conv => whnf
          refine stA TryzT_ok hq14 ?_
          conv => whnf
          intro w15 hq15 hc15 hs15
          conv => whnf
          refine ⟨_, hq15.cells (off := 0) (List.prefix_refl _), rfl, ?_⟩
          have hl1 : (o.msgs.eraseIdx i).length = o.msgs.length - 1 := List.length_eraseIdx_of_lt hlt
          have hl2 : (o.dead ++ [(mTried m o.limit).1]).length = o.dead.length + 1 := by simp
          have := ret { o with msgs := o.msgs.eraseIdx i, dead := o.dead ++ [(mTried m o.limit).1] } true w14 x1 y1 (some ⟨b, 0, none⟩) y2 a13 c13 (by unfold cObj; simp only [hl1, hl2]; exact hp14)
            ⟨hr14, by simp only [hl1] at hm14 ⊢; exact hm14, by simp only [hl2] at hd14 ⊢; exact hd14⟩ ⟨_, hq14, rfl⟩ X14 hF.symm w15 (by unfold cObj; simp only [hl1, hl2]; exact hq15) hc15
          unfold cObj at this
          simp only [hl1, hl2] at this
          exact this
        | false =>
          rw [hgo, if_neg (by decide)] at hF
          conv => whnf
          refine ld TryzT_ok hp9 ?_
          conv => whnf
          refine ldA TryzT_ok (hr9.cells (off := 0) (vs := cMsg (mTried m o.limit).1) (List.prefix_refl _)) ?_
          conv => whnf
          refine ia (sz := 6) TryzT_ok ?_ ?_
          · omega
          conv => whnf
          refine stAR TryzT_ok (vs := cMsg (mTried m o.limit).1) hbk9 ?_ ?_ (fun w10 hb10 hc10 hs10 => ?_)
          · rw [List.length_append, hlen]; simp only [cMsg_len]; omega
          · intro v hv; simp [cMsg] at hv; rcases hv with rfl | rfl | rfl | rfl | rfl | rfl <;> rfl
          have e2 : (0 : Nat) + (i : Int).toNat * 6 = i * 6 := by omega
          rw [e2] at hb10
          have ho10 := Own.splice ho2' hc4 hrl hb10 (by rw [hlen]; simp only [cMsg_len]; omega)
          rw [flt_set cMsg_len o.msgs i _ hlt] at ho10
          have hp10 := hp9.chg hc10 (by show ¬ p = b; omega)
          have hq10 := hq9.chg hc10 (by show ¬ q = b; omega)
          have hl6 : (o.msgs.set i (mTried m o.limit).1).length = o.msgs.length := List.length_set
          conv => whnf
          refine ldA TryzT_ok (cells6 hp10) ?_
          conv => whnf
          refine stA TryzT_ok hq10 ?_
          conv => whnf
          intro w11 hq11 hc11 hs11
          conv => whnf
          refine ⟨_, cells6 hq11, rfl, ?_⟩
          have := ret { o with msgs := o.msgs.set i (mTried m o.limit).1 } true w10 x1 y1 (some ⟨b, 0, none⟩) y2 x3 y3 (by unfold cObj; simp only [hl6]; exact hp10)
            ⟨ho1'.ls.kp (hc10.kpb hbk9 (by decide)), by show Sl _ _ _ _ _ _; simp only [hl6]; exact ho10.sl, (Own.chg ho3' hc10 (fun z hz hzb => hap b (by simp) (hzb ▸ hz))).sl⟩ ⟨_, hq10, rfl⟩ (Xw.then hc10 fun y hy => by omega) hF.symm w11 (by unfold cObj; simp only [hl6]; exact hq11) hc11
          unfold cObj at this
          simp only [hl6] at this
          exact this
      · conv => whnf
        refine al TryzT_ok ?_
        conv => whnf
        intro r w7 hr hs7 hx7 _
        conv => whnf
        refine ⟨(hp6.ext hx7).cell 2, ((h3.ext hx6).ext hx7).cells cMsg_len hx, (hp6.ext hx7).cell 4, ?_⟩
        conv => whnf
        refine cl (ms_tried w7 m o.limit (by omega)) ?_
        rintro v w8 ⟨rfl, hx8⟩
        have hr6 : w6.heap.size ≤ r := by omega
        replace hr := hr.ext hx8
        have X8 : Ext w5 w8 := (hx6.trans hx7).trans hx8
        have hw56 : w5.heap.size ≤ w6.heap.size := hx6.size
        clear hp6 hq6 hcs6
        conv => whnf
        refine stA TryzT_ok hr ?_
        conv => whnf
        intro w9 hr9 hc9 hs9
        have hrp : p ≠ r := by omega
        have hrq : q ≠ r := by omega
        have hrb : b ≠ r := by have := hbk.lt; omega
        have hp9 := (hp4.ext X8).chg hc9 hrp
        have hq9 := (hq4.ext X8).chg hc9 hrq
        have X9 : Ext w5 w9 := X8.then hc9 fun y hy => by omega
        have hbk9 := hbk.ext X9
        have ho2' : Own w9 (.slice (some ⟨b, 0, none⟩) o.msgs.length y2) 33 6 o.msgs.length (o.msgs.flatMap cMsg) := Own.ext ho2 X9
        have ho1' := ho1.ext X9
        have ho3' := ho3.ext X9
        have Xw : Ext w w9 := X4.trans X9
        have hsz9 : w5.heap.size ≤ w9.heap.size := X9.size
        clear X8 X9 hr
        cases hgo : (mTried m o.limit).2 with
        | true =>
          rw [hgo, if_pos rfl] at hF
          conv => whnf
          refine ld TryzT_ok hp9 ?_
          conv => whnf
          refine Ar.i (by omega) ?_
          have e1 : (i : Int) + 1 = ((i + 1 : Nat) : Int) := by omega
          rw [e1]
          conv => whnf
          refine cl (del_msgs ho2' hlt (by omega)) ?_
          rintro v w10 ⟨rfl, hi10⟩
          have hch : Chg (· = b) w9 w10 := hi10.chg.mono fun y _ hy => by simp at hy; omega
          have hp10 := hp9.chg hch (by show ¬ p = b; omega)
          have hq10 := hq9.chg hch (by show ¬ q = b; omega)
          have hr10 := hr9.chg hch (by show ¬ r = b; omega)
          have ho1'' := ho1'.kp (hch.kpb hbk9 (by decide))
          have ho3'' := Own.chg ho3' hch (fun z hz hzb => hap b (by simp) (hzb ▸ hz))
          have X10 : Ext w w10 := Xw.then hch fun y hy => by omega
          conv => whnf
          refine st TryzT_ok hp10 ?_
          conv => whnf
          intro w11 hp11 hc11 hs11
          conv => whnf
          refine ld TryzT_ok hp11 ?_
          have kM := hc11.kpb hp10 (E' := 33) (by decide)
          have kR := hc11.kpb hp10 (E' := 120) (by decide)
          conv => whnf
          refine ldA TryzT_ok ((hr10.kp kM).cells (off := 0) (vs := cMsg (mTried m o.limit).1) (List.prefix_refl _)) ?_
          conv => whnf
          refine bs (sz := 6) TryzT_ok ?_
          conv => whnf
          refine ⟨rfl, fun b12 w12 ho12 hs12 hx12 => ?_⟩
          have ho3x := (ho3''.kp kM).ext hx12
          conv => whnf
          refine ap TryzT_ok ho3x ho12.sl (by omega) (fun a13 c13 w13 hapd => ?_)
          have h13 : ∀ y, blkOf (.slice x3 o.dead.length y3) y → y ≠ b ∧ w2.heap.size ≤ y := fun y hy => ⟨fun e => hap b (by simp) (e ▸ hy), hf3 y hy⟩
          have hp13 := (hp11.ext hx12).kp (hapd.kp ho3x (by decide))
          have hq13 := ((hq10.chg hc11 (by show ¬ q = p; omega)).ext hx12).kp (hapd.kp ho3x (by decide))
          conv => whnf
          refine st TryzT_ok hp13 ?_
          conv => whnf
          intro w14 hp14 hc14 hs14
          have kM14 := hc14.kpb hp13 (E' := 33) (by decide)
          have kR14 := hc14.kpb hp13 (E' := 120) (by decide)
          have hq14 := hq13.chg hc14 (by show ¬ q = p; omega)
          have X14 : Ext w w14 := (((X10.then hc11 fun y hy => by omega).trans hx12).then hapd.chg fun y hy => by have := h13 y hy; omega).then hc14 fun y hy => by omega
          have hm14 : MsgsR w14 (.slice (some ⟨b, 0, none⟩) (o.msgs.length - 1) y2) (o.msgs.eraseIdx i) := by
            have h20 := hi10.own
            rw [flt_take cMsg_len, flt_drop cMsg_len, ← List.flatMap_append, ← List.eraseIdx_eq_take_drop_succ] at h20
            have h21 := ((Own.ext (h20.kp kM) hx12).chg hapd.chg (fun y hy hy2 => by have := h13 y hy2; simp at hy; omega)).kp kM14
            show Sl _ _ _ _ _ _
            rw [List.length_eraseIdx_of_lt hlt]; exact h21.sl
          have hd14 : MsgsR w14 (.slice a13 (o.dead.length + 1) c13) (o.dead ++ [(mTried m o.limit).1]) := by
            have h21 := (hapd.own.kp kM14).sl
            show Sl _ _ _ _ _ _
            rw [List.length_append, List.flatMap_append]
            have e : List.flatMap cMsg [(mTried m o.limit).1] = cMsg (mTried m o.limit).1 := by simp
            rw [e]; exact h21
          have hr14 : RowsR w14 (.slice x1 o.rows.length y1) o.rows := (((ho1''.kp kR).ext hx12).kp (hapd.kp ho3x (by decide))).ls.kp kR14
          conv => whnf
          refine ldA TryzT_ok (hp14.cells (off := 0) (List.prefix_refl _)) ?_
          conv => whnf
          refine stA TryzT_ok hq14 ?_
          conv => whnf
          intro w15 hq15 hc15 hs15
          conv => whnf
          refine ⟨_, hq15.cells (off := 0) (List.prefix_refl _), rfl, ?_⟩
          have hl1 : (o.msgs.eraseIdx i).length = o.msgs.length - 1 := List.length_eraseIdx_of_lt hlt
          have hl2 : (o.dead ++ [(mTried m o.limit).1]).length = o.dead.length + 1 := by simp
          have := ret { o with msgs := o.msgs.eraseIdx i, dead := o.dead ++ [(mTried m o.limit).1] } true w14 x1 y1 (some ⟨b, 0, none⟩) y2 a13 c13 (by unfold cObj; simp only [hl1, hl2]; exact hp14)
            ⟨hr14, by simp only [hl1] at hm14 ⊢; exact hm14, by simp only [hl2] at hd14 ⊢; exact hd14⟩ ⟨_, hq14, rfl⟩ X14 hF.symm w15 (by unfold cObj; simp only [hl1, hl2]; exact hq15) hc15
          unfold cObj at this
          simp only [hl1, hl2] at this
          exact this
        | false =>
          rw [hgo, if_neg (by decide)] at hF
          conv => whnf
          refine ld TryzT_ok hp9 ?_
          conv => whnf
          refine ldA TryzT_ok (hr9.cells (off := 0) (vs := cMsg (mTried m o.limit).1) (List.prefix_refl _)) ?_
          conv => whnf
          refine ia (sz := 6) TryzT_ok ?_ ?_
          · omega
          conv => whnf
          refine stAR TryzT_ok (vs := cMsg (mTried m o.limit).1) hbk9 ?_ ?_ (fun w10 hb10 hc10 hs10 => ?_)
          · rw [List.length_append, hlen]; simp only [cMsg_len]; omega
          · intro v hv; simp [cMsg] at hv; rcases hv with rfl | rfl | rfl | rfl | rfl | rfl <;> rfl
          have e2 : (0 : Nat) + (i : Int).toNat * 6 = i * 6 := by omega
          rw [e2] at hb10
          have ho10 := Own.splice ho2' hc4 hrl hb10 (by rw [hlen]; simp only [cMsg_len]; omega)
          rw [flt_set cMsg_len o.msgs i _ hlt] at ho10
          have hp10 := hp9.chg hc10 (by show ¬ p = b; omega)
          have hq10 := hq9.chg hc10 (by show ¬ q = b; omega)
          have hl6 : (o.msgs.set i (mTried m o.limit).1).length = o.msgs.length := List.length_set
          conv => whnf
          refine ldA TryzT_ok (cells6 hp10) ?_
          conv => whnf
          refine stA TryzT_ok hq10 ?_
          conv => whnf
          intro w11 hq11 hc11 hs11
          conv => whnf
          refine ⟨_, cells6 hq11, rfl, ?_⟩
          have := ret { o with msgs := o.msgs.set i (mTried m o.limit).1 } true w10 x1 y1 (some ⟨b, 0, none⟩) y2 x3 y3 (by unfold cObj; simp only [hl6]; exact hp10)
            ⟨ho1'.ls.kp (hc10.kpb hbk9 (by decide)), by show Sl _ _ _ _ _ _; simp only [hl6]; exact ho10.sl, (Own.chg ho3' hc10 (fun z hz hzb => hap b (by simp) (hzb ▸ hz))).sl⟩ ⟨_, hq10, rfl⟩ (Xw.then hc10 fun y hy => by omega) hF.symm w11 (by unfold cObj; simp only [hl6]; exact hq11) hc11
          unfold cObj at this
          simp only [hl6] at this
          exact this
end Go.Pst

namespace Go.Pst
open Go Go.Proofs

/-- slices.Grow of nil -/
theorem grow_msgs (w : World) (n : Nat) (hn : n ≤ 100000000000) :
    Does Tryz.prog 145 [.slice none 0 0, .int .i64 (n : Int)] w fun v w' => ∃ a c, v = .slice a 0 c ∧ Own w' (.slice a 0 c) 33 6 0 [] ∧ Ext w w' ∧ ∀ b, blkOf (.slice a 0 c) b → w.heap.size ≤ b := by
  refine does1 TryzT_ok Tryz.func145 Tryz.call145 Tryz.ntmps145 Tryz.results145 ?_
  conv => whnf
  refine Cmp.n (by omega) ?_
  conv => whnf
  refine cap_ TryzT_ok ?_
  conv => whnf
  refine Ar.i (by omega) ?_
  conv => whnf
  refine Ar.i (by omega) ?_
  conv => whnf
  refine Cmp.dec (fun h1 => ?_) (fun h1 => ?_)
  · conv => whnf
    refine cap_ TryzT_ok ?_
    conv => whnf
    refine slP (a := none) (c := 0) TryzT_ok 0 (by omega) (fun p hp => by cases hp) ?_
    conv => whnf
    refine apZ (sz := 6) (kq := .i64) (kn := .i64) (m := n) (a := none) (n := 0) (c := 0) TryzT_ok (Sl.nil w _ _ _) (by omega) (by omega) (by omega) (fun b1 c1 w1 ho1 hb1 hx1 => ?_) (hx := ?_)
    rotate_left
    · show Value.int _ _ = _
      congr 1
    rw [Nat.zero_add] at ho1 ⊢
    have ho := ho1
    obtain ⟨_, rest, hc1, hbk, hrl⟩ := ho1.opens
    conv => whnf
    refine slP (c := c1) TryzT_ok 0 (by omega) ho1.spot ?_
    conv => whnf
    refine ⟨_, c1, rfl, ⟨rfl, .inr ⟨b1, c1, _, rfl, by omega, by rw [List.nil_append]; exact hbk, by rw [List.nil_append]; exact hrl⟩⟩, hx1, fun b hb => by simp at hb; omega⟩
  · conv => whnf
    exact ⟨_, _, rfl, Own.nil _ _ _, Chg.refl w, fun b hb => (blkOf_none _ _ _ hb).elim⟩

/-- slices.Concat of two -/
theorem cat_msgs {w : World} {v : Value} {a1 a2 : Option Addr} {c1 c2 : Nat} {l1 l2 : List Msg} (hv : Sl w v 43 1 2 [.slice a1 l1.length c1, .slice a2 l2.length c2]) (h1 : MsgsR w (.slice a1 l1.length c1) l1) (h2 : MsgsR w (.slice a2 l2.length c2) l2)
    (b1 : l1.length ≤ 1000000000) (b2 : l2.length ≤ 1000000000) :
    Does Tryz.prog 71 [v] w fun v w' => MsgsR w' v (l1 ++ l2) ∧ Ext w w' := by
  obtain ⟨p, o, c, rfl⟩ := hv.some (by omega)
  have X := Chg.refl (M := fun _ => False) w
  refine does1 TryzT_ok Tryz.func71 Tryz.call71 Tryz.ntmps71 Tryz.results71 ?_
  refine go_cut (fun e w' => ∃ g, e = fr g [(0, .slice (some ⟨p, o, none⟩) 2 c), (3, .int .i64 ((l1.length + l2.length : Nat) : Int))] ∧ w' = w) 2 _ _ _ _ ?_ ?_
  · conv => whnf
    refine Cw.loopD TryzT_ok (ι := Nat) (fun i e w' => w' = w ∧ i ≤ 2 ∧ (∃ g, e = fr g [(0, .slice (some ⟨p, o, none⟩) 2 c), (3, .int .i64 (if i = 0 then 0 else if i = 1 then (l1.length : Int) else ((l1.length + l2.length : Nat) : Int))), (9, .slice (some ⟨p, o, none⟩) 2 c), (10, .int .i64 2), (11, .int .i64 (i : Int))])) (fun i => 2 - i) 0 ⟨rfl, by omega, mkfr _ ⟨rfl, rfl, rfl, rfl, rfl, trivial⟩⟩ ?_
    rintro i e w1 ⟨rfl, hi, ⟨g, rfl⟩⟩
    have hi' : i = 0 ∨ i = 1 ∨ i = 2 := by omega
    rcases hi' with rfl | rfl | rfl
    · conv => whnf
      refine Cmp.y (by omega) ?_
      conv => whnf
      refine ia (sz := 1) TryzT_ok ?_ ?_
      · omega
      conv => whnf
      refine OpR.ldC TryzT_ok (hv.elem 0 (by omega) 0 _ rfl) ?_
      conv => whnf
      refine Ar.i (by omega) ?_
      conv => whnf
      refine Cmp.n (by omega) ?_
      conv => whnf
      refine Ar.i (by omega) ?_
      conv => whnf
      exact ⟨1, ⟨rfl, by omega, mkfr _ ⟨rfl, by show Value.int _ _ = Value.int _ _; congr 1; omega, rfl, rfl, rfl, trivial⟩⟩, by omega⟩
    · conv => whnf
      refine Cmp.y (by omega) ?_
      conv => whnf
      refine ia (sz := 1) TryzT_ok ?_ ?_
      · omega
      conv => whnf
      refine OpR.ldC TryzT_ok (hv.elem 1 (by omega) 0 _ rfl) ?_
      conv => whnf
      refine Ar.i (by omega) ?_
      conv => whnf
      refine Cmp.n (by omega) ?_
      conv => whnf
      refine Ar.i (by omega) ?_
      conv => whnf
      exact ⟨2, ⟨rfl, by omega, mkfr _ ⟨rfl, by show Value.int _ _ = Value.int _ _; congr 1, rfl, rfl, rfl, trivial⟩⟩, by omega⟩
    · conv => whnf
      refine Cmp.n (by omega) ?_
      conv => whnf
      refine exists_and_right.2 ⟨mkfr _ ⟨rfl, rfl, trivial⟩, rfl⟩
  rintro e w1 ⟨g, rfl, rfl⟩
  conv => whnf
  refine cl (grow_msgs w1 (l1.length + l2.length) (by omega)) ?_
  rintro v w2 ⟨a, c', rfl, ho2, hx2, hf2⟩
  conv => whnf
  refine Cw.loopD TryzT_ok (ι := Nat) (fun i e w' => i ≤ 2 ∧ ∃ a c', (∃ g, e = fr g [(6, .slice a ((if i = 0 then [] else if i = 1 then l1 else l1 ++ l2) : List Msg).length c'), (25, .slice (some ⟨p, o, none⟩) 2 c), (26, .int .i64 2), (27, .int .i64 (i : Int))]) ∧
    Os w' (.slice a ((if i = 0 then [] else if i = 1 then l1 else l1 ++ l2) : List Msg).length c') 33 6 cMsg (if i = 0 then [] else if i = 1 then l1 else l1 ++ l2) ∧ Ext w1 w' ∧ ∀ b, blkOf (.slice a ((if i = 0 then [] else if i = 1 then l1 else l1 ++ l2) : List Msg).length c') b → w1.heap.size ≤ b) (fun i => 2 - i) 0 ⟨by omega, a, c', mkfr _ ⟨rfl, rfl, rfl, rfl, trivial⟩, ho2, hx2, hf2⟩ ?_
  rintro i e w3 ⟨hi, a, c', ⟨g, rfl⟩, ho3, hx3, hf3⟩
  have hv3 := hv.ext hx3
  have hi' : i = 0 ∨ i = 1 ∨ i = 2 := by omega
  rcases hi' with rfl | rfl | rfl
  · conv => whnf
    refine Cmp.y (by omega) ?_
    conv => whnf
    refine ia (sz := 1) TryzT_ok ?_ ?_
    · omega
    conv => whnf
    refine OpR.ldC TryzT_ok (hv3.elem 0 (by omega) 0 _ rfl) ?_
    conv => whnf
    refine ap TryzT_ok ho3 (h1.ext hx3) (by simp; omega) (fun a4 c4 w4 hap => ?_)
    conv => whnf
    refine Ar.i (by omega) ?_
    conv => whnf
    have e1 : ((if 0 = 0 then [] else if 0 = 1 then l1 else l1 ++ l2) : List Msg).length + l1.length = l1.length := by simp
    have e2 : ((if 0 = 0 then [] else if 0 = 1 then l1 else l1 ++ l2) : List Msg).flatMap cMsg ++ l1.flatMap cMsg = l1.flatMap cMsg := by simp
    have ho4 := hap.own
    have hat := hap.at_
    rw [e1, e2] at ho4
    rw [e1] at hat ⊢
    refine ⟨1, ⟨by omega, a4, c4, mkfr _ ⟨rfl, rfl, rfl, rfl, trivial⟩, ho4, hx3.then hap.chg hf3, fun b hb => ?_⟩, by omega⟩
    rcases hat b hb with h | h
    · exact hf3 b h
    · have := hx3.size; omega
  · conv => whnf
    refine Cmp.y (by omega) ?_
    conv => whnf
    refine ia (sz := 1) TryzT_ok ?_ ?_
    · omega
    conv => whnf
    refine OpR.ldC TryzT_ok (hv3.elem 1 (by omega) 0 _ rfl) ?_
    conv => whnf
    refine ap TryzT_ok ho3 (h2.ext hx3) (by simp; omega) (fun a4 c4 w4 hap => ?_)
    conv => whnf
    refine Ar.i (by omega) ?_
    conv => whnf
    have e1 : ((if 1 = 0 then [] else if 1 = 1 then l1 else l1 ++ l2) : List Msg).length + l2.length = (l1 ++ l2).length := by simp
    have e2 : ((if 1 = 0 then [] else if 1 = 1 then l1 else l1 ++ l2) : List Msg).flatMap cMsg ++ l2.flatMap cMsg = (l1 ++ l2).flatMap cMsg := by simp
    have ho4 := hap.own
    have hat := hap.at_
    rw [e1, e2] at ho4
    rw [e1] at hat ⊢
    refine ⟨2, ⟨by omega, a4, c4, mkfr _ ⟨rfl, rfl, rfl, rfl, trivial⟩, ho4, hx3.then hap.chg hf3, fun b hb => ?_⟩, by omega⟩
    rcases hat b hb with h | h
    · exact hf3 b h
    · have := hx3.size; omega
  · conv => whnf
    refine Cmp.n (by omega) ?_
    conv => whnf
    exact ⟨ho3.ls, hx3⟩
end Go.Pst

namespace Go.Pst
open Go Go.Proofs

/-- v is a slice of these objects -/
def ObjsR (w : World) (v : Value) (l : List Obj) : Prop := ∃ cs, Sl w v 45 6 l.length cs ∧ Rep 6 (ObjC w) cs l
theorem ObjsR.ext {w w' : World} {v : Value} {l : List Obj} (h : ObjsR w v l) (hx : Ext w w') : ObjsR w' v l := by
  obtain ⟨cs, h1, h2⟩ := h; exact ⟨cs, h1.ext hx, h2.mono fun c o _ h => h.ext hx⟩
theorem ObjsR.kp {w w' : World} {v : Value} {l : List Obj} (h : ObjsR w v l) (h0 : Kp 45 w w') (h1 : Kp 120 w w') (h2 : Kp 33 w w') : ObjsR w' v l := by
  obtain ⟨cs, h3, h4⟩ := h; exact ⟨cs, h3.kp h0, h4.mono fun c o _ h => h.kp h1 h2⟩
/-- cells of a state -/
def cStt (s : Stt) (a : Option Addr) (c : Nat) : List Value := [.int .i64 s.next, .slice a s.objs.length c]
/-- c are the cells of state s -/
def StC (w : World) (c : List Value) (s : Stt) : Prop := ∃ a k, c = cStt s a k ∧ ObjsR w (.slice a s.objs.length k) s.objs
theorem StC.ext {w w' : World} {c : List Value} {s : Stt} (h : StC w c s) (hx : Ext w w') : StC w' c s := by
  obtain ⟨a, k, h1, h2⟩ := h; exact ⟨a, k, h1, h2.ext hx⟩
/-- the object at a place of a slice -/
theorem ObjsR.at_ {w : World} {b off n c : Nat} {l : List Obj} (h : ObjsR w (.slice (some ⟨b, off, none⟩) n c) l) {i : Nat} {o : Obj} (hi : l[i]? = some o) :
    ∃ a1 c1 a2 c2 a3 c3, Cells w b (off + i * 6) (cObj o a1 c1 a2 c2 a3 c3) ∧ ObjP w o a1 c1 a2 c2 a3 c3 := by
  obtain ⟨cs, h1, h2⟩ := h
  obtain ⟨a, c', hv⟩ := h1.isSlice
  cases hv
  have h3 := h1.elem i (lt_of_getElem? hi)
  obtain ⟨⟨a1, c1, a2, c2, a3, c3, h4, h5⟩, _⟩ := h2.get hi
  rw [h4] at h3
  exact ⟨a1, c1, a2, c2, a3, c3, h3, h5⟩
theorem ObjsR.isSlice {w : World} {v : Value} {l : List Obj} (h : ObjsR w v l) : ∃ a c, v = .slice a l.length c := by
  obtain ⟨cs, h1, _⟩ := h; exact h1.isSlice
theorem ObjsR.some {w : World} {v : Value} {l : List Obj} (h : ObjsR w v l) (hl : l ≠ []) : ∃ b off c, v = .slice (Option.some ⟨b, off, none⟩) l.length c := by
  obtain ⟨cs, h1, _⟩ := h
  exact h1.some (by cases l with | nil => exact absurd rfl hl | cons => simp)
theorem ObjC.mk {w : World} {o : Obj} {a1 c1 a2 c2 a3 c3} (h : ObjP w o a1 c1 a2 c2 a3 c3) : ObjC w (cObj o a1 c1 a2 c2 a3 c3) o := ⟨_, _, _, _, _, _, rfl, h⟩

theorem st_find1 {w : World} {p : Nat} {k : ByteArray} (hp : Blk w p 9 [.string k]) {c : List Value} {o : Obj} (h : ObjC w c o) :
    Does Tryz.prog 187 [.agg ⟨c⟩, .pointer (some ⟨p, 0, none⟩)] w fun v w' => v = .bool (decide (o.name = k)) ∧ Ext w w' := by
  obtain ⟨a1, c1, a2, c2, a3, c3, rfl, h⟩ := h
  refine does1 TryzT_ok Tryz.func187 Tryz.call187 Tryz.ntmps187 Tryz.results187 ?_
  conv => whnf
  refine bx ?_
  conv => whnf
  intro q w1 hq _ hx1 _
  conv => whnf
  refine ld TryzT_ok hq ?_
  conv => whnf
  refine ld TryzT_ok (hp.ext hx1) ?_
  conv => whnf
  refine Cmp.keep ?_
  conv => whnf
  exact ⟨rfl, hx1⟩
/-- state.Find -/
theorem st_find {w : World} {c : List Value} {s : Stt} (h : StC w c s) (hb : s.objs.length ≤ 1000000) (k : ByteArray) :
    Does Tryz.prog 136 [.agg ⟨c⟩, .string k] w fun v w' => v = .int .i64 (sFind s.objs k) ∧ Ext w w' := by
  obtain ⟨a, c', rfl, h⟩ := h
  refine does1 TryzT_ok Tryz.func136 Tryz.call136 Tryz.ntmps136 Tryz.results136 ?_
  conv => whnf
  refine bx ?_
  conv => whnf
  intro p w1 hp _ hx1 _
  conv => whnf
  refine bx ?_
  conv => whnf
  intro q w2 hq _ hx2 _
  have X := hx1.trans hx2
  conv => whnf
  refine ld TryzT_ok (hp.ext hx2) ?_
  obtain ⟨cs, hs, hr⟩ := h.ext X
  conv => whnf
  refine cl (idx_objs hs (by omega) (fun o => decide (o.name = k)) (fun i o ho w' X => st_find1 (hq.ext X) ((hr.get ho).1.ext X))) ?_
  rintro v w3 ⟨rfl, hx3⟩
  conv => whnf
  exact ⟨rfl, X.trans hx3⟩

theorem ob_row (w : World) (r : Row) : Does Tryz.prog 178 [.agg ⟨cRow r⟩] w fun v w' => v = .bool (!rRight r) ∧ Ext w w' := by
  refine does1 TryzT_ok Tryz.func178 Tryz.call178 Tryz.ntmps178 Tryz.results178 ?_
  conv => whnf
  refine bx ?_
  conv => whnf
  intro q w1 hq _ hx1 _
  conv => whnf
  refine ldA TryzT_ok (hq.cells (off := 0) (vs := cRow r) (List.prefix_refl _)) ?_
  conv => whnf
  refine cl (rw_right w1 r) ?_
  rintro v w2 ⟨rfl, hx2⟩
  cases rRight r <;> (conv => whnf)
  all_goals exact ⟨rfl, hx1.trans hx2⟩
theorem ob_msg (w : World) (m : Msg) : Does Tryz.prog 179 [.agg ⟨cMsg m⟩] w fun v w' => v = .bool (!mRight m) ∧ Ext w w' := by
  refine does1 TryzT_ok Tryz.func179 Tryz.call179 Tryz.ntmps179 Tryz.results179 ?_
  conv => whnf
  refine bx ?_
  conv => whnf
  intro q w1 hq _ hx1 _
  conv => whnf
  refine ldA TryzT_ok (hq.cells (off := 0) (vs := cMsg m) (List.prefix_refl _)) ?_
  conv => whnf
  refine cl (ms_right w1 m) ?_
  rintro v w2 ⟨rfl, hx2⟩
  cases mRight m <;> (conv => whnf)
  all_goals exact ⟨rfl, hx1.trans hx2⟩
theorem ob_dead {w : World} {p : Nat} (hp : Blk w p 160 [.func (.func 179) #[] #[]]) (m : Msg) :
    Does Tryz.prog 182 [.agg ⟨cMsg m⟩, .pointer (some ⟨p, 0, none⟩)] w fun v w' => v = .bool (m.claimed || !mRight m) ∧ Ext w w' := by
  refine does1 TryzT_ok Tryz.func182 Tryz.call182 Tryz.ntmps182 Tryz.results182 ?_
  conv => whnf
  refine bx ?_
  conv => whnf
  intro q w1 hq _ hx1 _
  conv => whnf
  refine ld TryzT_ok hq ?_
  cases hc : m.claimed with
  | true =>
    conv => whnf
    exact ⟨rfl, hx1⟩
  | false =>
    conv => whnf
    refine ld TryzT_ok (hp.ext hx1) ?_
    conv => whnf
    refine ldA TryzT_ok (hq.cells (off := 0) (vs := cMsg m) (List.prefix_refl _)) ?_
    conv => whnf
    refine clv (ob_msg w1 m) ?_
    rintro v w2 ⟨rfl, hx2⟩
    conv => whnf
    exact ⟨rfl, hx1.trans hx2⟩

theorem lIdx_all {α : Type} (q : α → Bool) (l : List α) : (!decide (0 ≤ lIdx (fun x => !q x) l)) = l.all q := by
  rcases lIdx_cases (fun x => !q x) l with ⟨h1, h2⟩ | ⟨i, x, h1, h2, h3, _⟩
  · rw [h1]
    have : l.all q = true := List.all_eq_true.2 fun x hx => by have := h2 x hx; simpa using this
    rw [this]; rfl
  · rw [h1]
    have : l.all q = false := by
      rw [Bool.eq_false_iff]
      intro h
      have := List.all_eq_true.1 h x (List.mem_of_getElem? h2)
      rw [this] at h3; cases h3
    rw [this]
    simp

/-- state.object -/
theorem st_objectL {w : World} {c : List Value} {o : Obj} (h : ObjC w c o) (hb : OL 1000000000 o) :
    Does Tryz.prog 131 [.agg ⟨c⟩] w fun v w' => v = .bool (oRight o) ∧ Ext w w' := by
  obtain ⟨a1, c1, a2, c2, a3, c3, rfl, h⟩ := h
  have b1 := hb.rows
  have b2 := hb.msgs
  have b3 := hb.dead
  have X := Chg.refl (M := fun _ => False) w
  refine does1 TryzT_ok Tryz.func131 Tryz.call131 Tryz.ntmps131 Tryz.results131 ?_
  conv => whnf
  refine bx ?_
  conv => whnf
  intro p w1 hp _ hx1 _
  replace X := X.trans hx1
  replace h := h.ext hx1
  conv => whnf
  refine ld TryzT_ok hp ?_
  conv => whnf
  refine ld TryzT_ok hp ?_
  conv => whnf
  refine ld TryzT_ok hp ?_
  conv => whnf
  refine cl (ef_object w1 o.name o.kind o.limit) ?_
  rintro v w2 ⟨rfl, rfl⟩
  unfold oRight
  cases oRight0 o.name o.kind o.limit with
  | false =>
    conv => whnf
    exact ⟨rfl, X⟩
  | true =>
    conv => whnf
    refine ld TryzT_ok hp ?_
    conv => whnf
    refine Cmp.dec (fun hk => ?_) (fun hk => ?_)
    · rw [if_pos hk]
      conv => whnf
      refine ld TryzT_ok hp ?_
      conv => whnf
      refine Cmp.dec (fun h1 => ?_) (fun h1 => ?_)
      · have h1 : o.msgs.length = 0 := by omega
        conv => whnf
        refine ld TryzT_ok hp ?_
        conv => whnf
        refine Cmp.dec (fun h2 => ?_) (fun h2 => ?_)
        · have h2 : o.dead.length = 0 := by omega
          conv => whnf
          refine ld TryzT_ok hp ?_
          conv => whnf
          refine cl (nd_rises h.rows (by omega)) ?_
          rintro v w3 ⟨rfl, hx3⟩
          replace X := X.trans hx3
          replace h := h.ext hx3
          replace hp := hp.ext hx3
          rw [h1, h2]
          cases rRises o.rows with
          | false =>
            conv => whnf
            exact ⟨rfl, X⟩
          | true =>
            conv => whnf
            refine ld TryzT_ok hp ?_
            conv => whnf
            refine cl (con_rows (cap := []) h.rows (by omega) (fun r => !rRight r) (fun i r hr w' _ => by rw [flt_at cRow_len hr]; exact ob_row w' r)) ?_
            rintro v w4 ⟨rfl, hx4⟩
            have e := lIdx_all rRight o.rows
            cases hq : decide (0 ≤ lIdx (fun r => !rRight r) o.rows) with
            | false =>
              rw [hq] at e
              conv => whnf
              exact ⟨by rw [← e]; rfl, X.trans hx4⟩
            | true =>
              rw [hq] at e
              conv => whnf
              exact ⟨by rw [← e]; rfl, X.trans hx4⟩
        · have h2 : ¬ o.dead.length = 0 := by omega
          conv => whnf
          rw [decide_eq_false h2]
          exact ⟨by simp, X⟩
      · have h1 : ¬ o.msgs.length = 0 := by omega
        conv => whnf
        rw [decide_eq_false h1]
        exact ⟨by simp, X⟩
    · rw [if_neg hk]
      conv => whnf
      refine al TryzT_ok ?_
      conv => whnf
      intro f w3 hf _ hx3 _
      replace X := X.trans hx3
      replace h := h.ext hx3
      replace hp := hp.ext hx3
      conv => whnf
      refine st TryzT_ok hf ?_
      conv => whnf
      intro w4 hf4 hc4 hs4
      have X4 : Ext w w4 := X.then hc4 fun y hy => by have := hx1.size; omega
      have hp4 := hp.kp (hc4.kpb hf (by decide))
      have h4 : ObjP w4 o a1 c1 a2 c2 a3 c3 := ⟨h.rows.kp (hc4.kpb hf (by decide)), h.msgs.kp (hc4.kpb hf (by decide)), h.dead.kp (hc4.kpb hf (by decide))⟩
      clear h hp hf X
      conv => whnf
      refine ld TryzT_ok hp4 ?_
      conv => whnf
      refine Cmp.dec (fun h1 => ?_) (fun h1 => ?_)
      · have h1 : o.rows.length = 0 := by omega
        rw [h1]
        conv => whnf
        refine ld TryzT_ok hp4 ?_
        conv => whnf
        refine cl (qu_rises h4.msgs (by omega)) ?_
        rintro v w5 ⟨rfl, hx5⟩
        replace X4 := X4.trans hx5
        replace h4 := h4.ext hx5
        replace hp4 := hp4.ext hx5
        replace hf4 := hf4.ext hx5
        cases qRises o.msgs with
        | false =>
          conv => whnf
          exact ⟨rfl, X4⟩
        | true =>
          conv => whnf
          refine ld TryzT_ok hp4 ?_
          conv => whnf
          refine ld TryzT_ok hf4 ?_
          conv => whnf
          refine cl (con_msgs (cap := []) h4.msgs (by omega) (fun m => !mRight m) (fun i m hm w' _ => by rw [flt_at cMsg_len hm]; exact ob_msg w' m)) ?_
          rintro v w6 ⟨rfl, hx6⟩
          replace X4 := X4.trans hx6
          replace h4 := h4.ext hx6
          replace hp4 := hp4.ext hx6
          replace hf4 := hf4.ext hx6
          have e := lIdx_all mRight o.msgs
          cases hq : decide (0 ≤ lIdx (fun m => !mRight m) o.msgs) with
          | true =>
            rw [hq] at e
            conv => whnf
            exact ⟨by rw [← e]; rfl, X4⟩
          | false =>
            rw [hq] at e
            conv => whnf
            refine ld TryzT_ok hp4 ?_
            conv => whnf
            refine cl (con_msgs h4.dead (by omega) (fun m => m.claimed || !mRight m) (fun i m hm w' X => by rw [flt_at cMsg_len hm]; exact ob_dead (hf4.ext X) m)) ?_
            rintro v w7 ⟨rfl, hx7⟩
            have e2 := lIdx_all (fun m : Msg => !m.claimed && mRight m) o.dead
            have e3 : (fun m : Msg => !(!m.claimed && mRight m)) = fun m => m.claimed || !mRight m := by funext m; cases m.claimed <;> simp
            rw [e3] at e2
            cases hq2 : decide (0 ≤ lIdx (fun m : Msg => m.claimed || !mRight m) o.dead) with
            | true =>
              rw [hq2] at e2
              conv => whnf
              exact ⟨by rw [← e, ← e2]; rfl, X4.trans hx7⟩
            | false =>
              rw [hq2] at e2
              conv => whnf
              exact ⟨by rw [← e, ← e2]; rfl, X4.trans hx7⟩
      · have h1 : ¬ o.rows.length = 0 := by omega
        conv => whnf
        rw [decide_eq_false h1]
        exact ⟨by simp, X4⟩

theorem st_object {w : World} {c : List Value} {o : Obj} (h : ObjC w c o) (hb : OB 1000000000 o) :
    Does Tryz.prog 131 [.agg ⟨c⟩] w fun v w' => v = .bool (oRight o) ∧ Ext w w' := st_objectL h hb.ol

theorem onceG_append {next : Int} {seen : List Int} {l l' : List Msg} : onceG next seen (l ++ l') = (onceG next seen l && onceG next (seen ++ l.map (·.id)) l') := by
  induction l generalizing seen with
  | nil => simp [onceG]
  | cons m l ih => simp only [List.cons_append, onceG, ih, List.map_cons, List.append_assoc, List.nil_append, Bool.and_assoc]
theorem Chg.kpm {w w' : World} {r : Nat} {l : List Int} (h : Chg (· = r) w w') (hm : MapS w r l) (E : Nat) : Kp E w w' := fun b cs hb => hb.chg h fun e => hm.ne hb e.symm

/-- state.once -/
theorem st_onceL {K : Nat} {w : World} {c : List Value} {s : Stt} (h : StC w c s) (hK : K ≤ 1000000000) (hb : LB K s) :
    Does Tryz.prog 133 [.agg ⟨c⟩] w fun v w' => v = .bool (sOnce s) ∧ Ext w w' := by
  have hlen := hb.objs
  obtain ⟨a, k, rfl, h⟩ := h
  have X := Chg.refl (M := fun _ => False) w
  refine does1 TryzT_ok Tryz.func133 Tryz.call133 Tryz.ntmps133 Tryz.results133 ?_
  conv => whnf
  refine bx ?_
  conv => whnf
  intro p w1 hp _ hx1 _
  replace X := X.trans hx1
  replace h := h.ext hx1
  conv => whnf
  refine mkMap (fun r w2 hm hr hx2 => ?_)
  conv => whnf
  refine ld TryzT_ok (hp.ext hx2) ?_
  conv => whnf
  refine Cw.loopD TryzT_ok (ι := Nat) (fun i e w' => i ≤ s.objs.length ∧ (∃ g', e = fr g' [(1, .pointer (some ⟨p, 0, none⟩)), (3, .map (some r)), (10, .slice a s.objs.length k), (11, .int .i64 (s.objs.length : Int)), (12, .int .i64 (i : Int))]) ∧ MapS w' r ((sMsgs (s.objs.take i)).map (·.id)) ∧
    sOnce s = onceG s.next ((sMsgs (s.objs.take i)).map (·.id)) (sMsgs (s.objs.drop i)) ∧ Ext w1 w')
    (fun i => s.objs.length - i) 0 ⟨by omega, mkfr _ ⟨rfl, rfl, rfl, rfl, rfl, trivial⟩, by simpa [sMsgs] using MapS.new hm, rfl, hx2⟩ ?_
  rintro i e w3 ⟨hi, ⟨g', rfl⟩, hmm, hq, X3⟩
  conv => whnf
  refine Cmp.dec (fun hlt => ?_) (fun hlt => ?_)
  · have hlt : i < s.objs.length := by omega
    obtain ⟨o, ho⟩ := getElem?_lt hlt
    have hob := hb.ob o (List.mem_of_getElem? ho)
    have h3 := h.ext X3
    have hp3 := hp.ext X3
    obtain ⟨b, off, c', h4⟩ := h3.some (ne_nil_of_lt hlt)
    cases h4
    obtain ⟨a1, c1, a2, c2, a3, c3, hcs, hop⟩ := h3.at_ ho
    rw [drop_cons ho, show sMsgs (o :: s.objs.drop (i + 1)) = (o.msgs ++ o.dead) ++ sMsgs (s.objs.drop (i + 1)) from rfl] at hq
    conv => whnf
    refine ia (sz := 6) TryzT_ok ?_ ?_
    · omega
    conv => whnf
    refine ldA TryzT_ok hcs ?_
    conv => whnf
    refine al TryzT_ok ?_
    conv => whnf
    intro q w4a hq4a hq4s hx4a _
    conv => whnf
    refine stA TryzT_ok hq4a ?_
    conv => whnf
    intro w4 hq4 hq4c _
    have hx4 : Ext _ w4 := hx4a.then hq4c (fun y hy => by omega)
    clear hq4a hq4c hx4a
    replace X3 := X3.trans hx4
    replace hop := hop.ext hx4
    replace hmm := hmm.ext hx4
    replace hp3 := hp3.ext hx4
    conv => whnf
    refine ld TryzT_ok hq4 ?_
    conv => whnf
    refine ld TryzT_ok hq4 ?_
    conv => whnf
    refine bs (sz := 1) TryzT_ok ?_
    conv => whnf
    refine ⟨rfl, fun b5 w5 ho5 hs5 hx5 => ?_⟩
    replace X3 := X3.trans hx5
    replace hop := hop.ext hx5
    replace hmm := hmm.ext hx5
    replace hp3 := hp3.ext hx5
    conv => whnf
    refine cl (cat_msgs ho5.sl hop.msgs hop.dead (by have := hob.msgs; omega) (by have := hob.dead; omega)) ?_
    rintro v w6 ⟨hL, hx6⟩
    replace X3 := X3.trans hx6
    replace hmm := hmm.ext hx6
    replace hp3 := hp3.ext hx6
    generalize hLd : o.msgs ++ o.dead = L at hL hq
    have hLl : L.length ≤ 2000000000 := by rw [← hLd, List.length_append]; have := hob.msgs; have := hob.dead; omega
    obtain ⟨a7, c7, rfl⟩ := hL.isSlice
    generalize hD : (sMsgs (s.objs.take i)).map (·.id) = D at hmm hq
    conv => whnf
    refine Cw.loopD TryzT_ok (ι := Nat) (fun j e w' => j ≤ L.length ∧ (∃ g', e = fr g' [(1, .pointer (some ⟨p, 0, none⟩)), (3, .map (some r)), (10, .slice (some ⟨b, off, none⟩) s.objs.length k), (11, .int .i64 (s.objs.length : Int)), (12, .int .i64 (i : Int)), (21, .slice a7 L.length c7), (22, .int .i64 (L.length : Int)), (23, .int .i64 (j : Int))]) ∧ MapS w' r (D ++ (L.take j).map (·.id)) ∧
      sOnce s = onceG s.next (D ++ (L.take j).map (·.id)) (L.drop j ++ sMsgs (s.objs.drop (i + 1))) ∧ Ext w1 w' ∧ MsgsR w' (.slice a7 L.length c7) L)
      (fun j => L.length - j) 0 ⟨by omega, mkfr _ ⟨rfl, rfl, rfl, rfl, rfl, rfl, rfl, rfl, trivial⟩, by simpa using hmm, by simpa using hq, X3, hL⟩ ?_
    clear hmm hq X3 hL hp3 hop hcs ho5 hq4
    rintro j e w7 ⟨hj, ⟨g7, rfl⟩, hmm, hq, X3, hL⟩
    conv => whnf
    refine Cmp.dec (fun hjt => ?_) (fun hjt => ?_)
    · have hjt : j < L.length := by omega
      obtain ⟨m, hm⟩ := getElem?_lt hjt
      rw [drop_cons hm, List.cons_append] at hq
      obtain ⟨b8, o8, c8, h8⟩ := hL.some (ne_nil_of_lt hjt)
      cases h8
      conv => whnf
      refine ia (sz := 6) TryzT_ok ?_ ?_
      · omega
      conv => whnf
      refine ldA TryzT_ok (hL.cells cMsg_len hm) ?_
      conv => whnf
      refine al TryzT_ok ?_
      conv => whnf
      intro t w9a hta hts hx9a _
      conv => whnf
      refine stA TryzT_ok hta ?_
      conv => whnf
      intro w9 ht htc _
      have hx9 : Ext _ w9 := hx9a.then htc (fun y hy => by omega)
      clear hta htc hx9a
      replace X3 := X3.trans hx9
      replace hL := hL.ext hx9
      replace hmm := hmm.ext hx9
      conv => whnf
      refine ld TryzT_ok ht ?_
      conv => whnf
      refine lkS TryzT_ok hmm ?_
      generalize hD2 : D ++ (L.take j).map (·.id) = D2 at hmm hq
      by_cases hin : m.id ∈ D2
      · rw [decide_eq_true hin]
        conv => whnf
        refine ⟨?_, X.trans X3⟩
        rw [hq]; unfold onceG; rw [decide_eq_true hin]; rfl
      · rw [decide_eq_false hin]
        conv => whnf
        refine ld TryzT_ok ht ?_
        conv => whnf
        refine ld TryzT_ok (hp.ext X3) ?_
        conv => whnf
        refine Cmp.dec (fun h9 => ?_) (fun h9 => ?_)
        · conv => whnf
          refine ⟨?_, X.trans X3⟩
          rw [hq]; unfold onceG; rw [decide_eq_false (show ¬ m.id < s.next by omega)]; simp
        · conv => whnf
          refine ld TryzT_ok ht ?_
          conv => whnf
          refine muS TryzT_ok hmm hin (fun w10 hm10 hc10 hs10 => ?_)
          conv => whnf
          refine Ar.i (by omega) ?_
          conv => whnf
          have e1 : D ++ (L.take (j + 1)).map (·.id) = D2 ++ [m.id] := by rw [take_snoc hm, List.map_append, ← List.append_assoc, hD2]; rfl
          refine ⟨j + 1, ⟨by omega, mkfr _ ⟨rfl, rfl, rfl, rfl, rfl, rfl, rfl, rfl, trivial⟩, by rw [e1]; exact hm10, ?_, X3.then hc10 fun y hy => by omega, ?_⟩, by omega⟩
          · rw [hq, e1]; conv => lhs; unfold onceG
            rw [decide_eq_false hin, decide_eq_true (show m.id < s.next by omega)]; simp
          · exact hL.kp (hc10.kpm hmm _)
    · have : j = L.length := by omega
      subst this
      rw [List.take_length] at hmm hq
      rw [List.drop_length, List.nil_append] at hq
      have e1 : (sMsgs (s.objs.take (i + 1))).map (·.id) = D ++ L.map (·.id) := by
        rw [take_snoc ho]; unfold sMsgs at hD ⊢
        rw [List.flatMap_append, List.map_append, hD]; simp [hLd.symm]
      conv => whnf
      refine Ar.i (by omega) ?_
      conv => whnf
      exact ⟨i + 1, ⟨by omega, mkfr _ ⟨rfl, rfl, rfl, rfl, rfl, trivial⟩, by rw [e1]; exact hmm, by rw [e1]; exact hq, X3⟩, by omega⟩
  · have : i = s.objs.length := by omega
    subst this
    conv => whnf
    refine ⟨?_, X.trans X3⟩
    rw [hq, List.drop_length]; rfl
theorem st_once {K : Nat} {w : World} {c : List Value} {s : Stt} (h : StC w c s) (hK : K ≤ 1000000000) (hb : SB K s) :
    Does Tryz.prog 133 [.agg ⟨c⟩] w fun v w' => v = .bool (sOnce s) ∧ Ext w w' := st_onceL h hK hb.lb

end Go.Pst

