/- What functions of the program do, first part; no conditions. -/
import Derived.Test.YtnamfghgemhljaaGreatQa
import Derived.KernelRfl
import Derived.Test.YtnamfghgemhljaaGreatProg
namespace Go.Pst
open Go Go.Proofs
noncomputable def TryzT : Tab := [
  (3, ⟨Tryz.t3, Tryz.t3.desc, false, []⟩),
  (43, ⟨Tryz.t43, Tryz.t43.desc, false, []⟩),
  (45, ⟨Tryz.t45, Tryz.t44.desc, true, [(0, 1, false), (1, 1, false), (2, 1, false), (3, 1, false), (4, 1, false), (5, 1, false)]⟩),
  (40, ⟨Tryz.t40, Tryz.t39.desc, true, [(0, 1, false), (1, 1, false)]⟩),
  (35, ⟨Tryz.t35, Tryz.t34.desc, true, [(0, 1, false), (1, 1, false), (2, 1, false), (3, 1, false), (4, 1, false), (5, 1, false), (6, 1, false), (7, 6, true)]⟩),
  (33, ⟨Tryz.t33, Tryz.t32.desc, true, [(0, 1, false), (1, 1, false), (2, 1, false), (3, 1, false), (4, 1, false), (5, 1, false)]⟩),
  (9, ⟨Tryz.t9, Tryz.t9.desc, false, []⟩),
  (38, ⟨Tryz.t38, Tryz.t38.desc, false, []⟩),
  (36, ⟨Tryz.t36, Tryz.t36.desc, false, []⟩),
  (42, ⟨Tryz.t42, Tryz.t42.desc, false, []⟩),
  (72, ⟨Tryz.t72, Tryz.t72.desc, false, []⟩),
  (4, ⟨Tryz.t4, Tryz.t4.desc, false, []⟩),
  (47, ⟨Tryz.t47, Tryz.t47.desc, false, []⟩),
  (120, ⟨Tryz.t120, Tryz.t119.desc, true, [(0, 1, false), (1, 1, false)]⟩),
  (96, ⟨Tryz.t96, Tryz.t95.desc, true, [(0, 1, false), (1, 1, false), (2, 1, false), (3, 1, false), (4, 1, false), (5, 1, false), (6, 1, false)]⟩),
  (173, ⟨Tryz.t173, Tryz.t172.desc, true, [(0, 1, false), (1, 1, false), (2, 1, false), (3, 1, false), (4, 1, false), (5, 1, false), (6, 1, false)]⟩),
  (75, ⟨Tryz.t75, Tryz.t74.desc, true, [(0, 1, false), (1, 1, false), (2, 1, false), (3, 1, false), (4, 1, false), (5, 1, false)]⟩),
  (64, ⟨Tryz.t64, Tryz.t63.desc, true, [(0, 1, false), (1, 1, false), (2, 2, true), (4, 1, false), (5, 1, false)]⟩),
  (80, ⟨Tryz.t80, Tryz.t79.desc, true, [(0, 1, false), (1, 1, false), (2, 2, true), (4, 1, false), (5, 1, false)]⟩),
  (91, ⟨Tryz.t91, Tryz.t90.desc, true, [(0, 1, false), (1, 1, false), (2, 1, false), (3, 1, false), (4, 1, false)]⟩),
  (5, ⟨Tryz.t5, Tryz.t5.desc, false, []⟩),
  (147, ⟨Tryz.t147, Tryz.t146.desc, true, [(0, 1, false)]⟩),
  (164, ⟨Tryz.t164, Tryz.t164.desc, false, []⟩),
  (89, ⟨Tryz.t89, Tryz.t89.desc, false, []⟩),
  (23, ⟨Tryz.t23, Tryz.t23.desc, false, []⟩),
  (124, ⟨Tryz.t124, Tryz.t123.desc, true, [(0, 1, false)]⟩),
  (186, ⟨Tryz.t186, Tryz.t186.desc, false, []⟩),
  (168, ⟨Tryz.t168, Tryz.t167.desc, true, [(0, 1, false), (1, 1, false)]⟩),
  (26, ⟨Tryz.t26, Tryz.t26.desc, false, []⟩),
  (165, ⟨Tryz.t165, Tryz.t165.desc, false, []⟩),
  (57, ⟨Tryz.t57, Tryz.t56.desc, true, [(0, 1, false), (1, 1, false), (2, 1, false), (3, 1, false)]⟩),
  (27, ⟨Tryz.t27, Tryz.t3.desc, false, []⟩),
  (188, ⟨Tryz.t188, Tryz.t187.desc, true, [(0, 1, false), (1, 1, false)]⟩),
  (204, ⟨Tryz.t204, Tryz.t203.desc, true, [(0, 1, false), (1, 1, false)]⟩),
  (55, ⟨Tryz.t55, Tryz.t55.desc, false, []⟩),
  (67, ⟨Tryz.t67, Tryz.t67.desc, false, []⟩),
  (73, ⟨Tryz.t73, Tryz.t73.desc, false, []⟩),
  (50, ⟨Tryz.t50, Tryz.t50.desc, false, []⟩),
  (78, ⟨Tryz.t78, Tryz.t78.desc, false, []⟩),
  (102, ⟨Tryz.t102, Tryz.t101.desc, true, [(0, 1, false), (1, 1, false)]⟩),
  (181, ⟨Tryz.t181, Tryz.t181.desc, false, []⟩),
  (212, ⟨Tryz.t212, Tryz.t212.desc, false, []⟩),
  (62, ⟨Tryz.t62, Tryz.t62.desc, false, []⟩),
  (106, ⟨Tryz.t106, Tryz.t105.desc, true, [(0, 1, false), (1, 1, false)]⟩),
  (160, ⟨Tryz.t160, Tryz.t160.desc, false, []⟩),
  (49, ⟨Tryz.t49, Tryz.t49.desc, false, []⟩),
  (235, ⟨Tryz.t235, Tryz.t235.desc, false, []⟩),
  (189, ⟨Tryz.t189, Tryz.t189.desc, false, []⟩)]
theorem TryzT_ok : TryzT.Ok Tryz.prog := by
  unfold TryzT Tab.Ok
  simp only [List.forall_mem_cons]
  exact ⟨⟨Tryz.type3, Tryz.underlying3, by kernel_rfl⟩, ⟨Tryz.type43, Tryz.underlying43, by kernel_rfl⟩, ⟨Tryz.type45, Tryz.underlying45, by kernel_rfl⟩, ⟨Tryz.type40, Tryz.underlying40, by kernel_rfl⟩, ⟨Tryz.type35, Tryz.underlying35, by kernel_rfl⟩, ⟨Tryz.type33, Tryz.underlying33, by kernel_rfl⟩, ⟨Tryz.type9, Tryz.underlying9, by kernel_rfl⟩, ⟨Tryz.type38, Tryz.underlying38, by kernel_rfl⟩, ⟨Tryz.type36, Tryz.underlying36, by kernel_rfl⟩, ⟨Tryz.type42, Tryz.underlying42, by kernel_rfl⟩, ⟨Tryz.type72, Tryz.underlying72, by kernel_rfl⟩, ⟨Tryz.type4, Tryz.underlying4, by kernel_rfl⟩, ⟨Tryz.type47, Tryz.underlying47, by kernel_rfl⟩, ⟨Tryz.type120, Tryz.underlying120, by kernel_rfl⟩, ⟨Tryz.type96, Tryz.underlying96, by kernel_rfl⟩, ⟨Tryz.type173, Tryz.underlying173, by kernel_rfl⟩, ⟨Tryz.type75, Tryz.underlying75, by kernel_rfl⟩, ⟨Tryz.type64, Tryz.underlying64, by kernel_rfl⟩, ⟨Tryz.type80, Tryz.underlying80, by kernel_rfl⟩, ⟨Tryz.type91, Tryz.underlying91, by kernel_rfl⟩, ⟨Tryz.type5, Tryz.underlying5, by kernel_rfl⟩, ⟨Tryz.type147, Tryz.underlying147, by kernel_rfl⟩, ⟨Tryz.type164, Tryz.underlying164, by kernel_rfl⟩, ⟨Tryz.type89, Tryz.underlying89, by kernel_rfl⟩, ⟨Tryz.type23, Tryz.underlying23, by kernel_rfl⟩, ⟨Tryz.type124, Tryz.underlying124, by kernel_rfl⟩, ⟨Tryz.type186, Tryz.underlying186, by kernel_rfl⟩, ⟨Tryz.type168, Tryz.underlying168, by kernel_rfl⟩, ⟨Tryz.type26, Tryz.underlying26, by kernel_rfl⟩, ⟨Tryz.type165, Tryz.underlying165, by kernel_rfl⟩, ⟨Tryz.type57, Tryz.underlying57, by kernel_rfl⟩, ⟨Tryz.type27, Tryz.underlying27, by kernel_rfl⟩, ⟨Tryz.type188, Tryz.underlying188, by kernel_rfl⟩, ⟨Tryz.type204, Tryz.underlying204, by kernel_rfl⟩, ⟨Tryz.type55, Tryz.underlying55, by kernel_rfl⟩, ⟨Tryz.type67, Tryz.underlying67, by kernel_rfl⟩, ⟨Tryz.type73, Tryz.underlying73, by kernel_rfl⟩, ⟨Tryz.type50, Tryz.underlying50, by kernel_rfl⟩, ⟨Tryz.type78, Tryz.underlying78, by kernel_rfl⟩, ⟨Tryz.type102, Tryz.underlying102, by kernel_rfl⟩, ⟨Tryz.type181, Tryz.underlying181, by kernel_rfl⟩, ⟨Tryz.type212, Tryz.underlying212, by kernel_rfl⟩, ⟨Tryz.type62, Tryz.underlying62, by kernel_rfl⟩, ⟨Tryz.type106, Tryz.underlying106, by kernel_rfl⟩, ⟨Tryz.type160, Tryz.underlying160, by kernel_rfl⟩, ⟨Tryz.type49, Tryz.underlying49, by kernel_rfl⟩, ⟨Tryz.type235, Tryz.underlying235, by kernel_rfl⟩, ⟨Tryz.type189, Tryz.underlying189, by kernel_rfl⟩, fun _ h => nomatch h⟩
theorem Tryz_mixed : Tryz.prog.follows .mixedOrders = true := by kernel_rfl
end Go.Pst

namespace Go.Pst
open Go Go.Proofs

/-- slices.Clone at bytes: a copy of one's own; nil stays nil -/
theorem clone_bytes {w : World} {v : Value} {n : Nat} {cs : List Value} (hs : Sl w v 5 1 n cs) (hb : n ≤ 274877906944) :
    Does Tryz.prog 56 [v] w fun v' w' => ∃ a c, v' = .slice a n c ∧ Ext w w' ∧ Own w' (.slice a n c) 5 1 n cs ∧ ∀ b, blkOf (.slice a n c) b → w.heap.size ≤ b := by
  have h := hs.2
  rcases hs.2 with ⟨c, rfl, h0⟩ | ⟨b, off, c, full, rfl, _⟩
  · refine does1 TryzT_ok Tryz.func56 Tryz.call56 Tryz.ntmps56 Tryz.results56 ?_
    conv => whnf
    subst h0
    have : cs = [] := List.eq_nil_of_length_eq_zero (by rw [hs.1, Nat.zero_mul])
    subst this
    exact ⟨none, 0, rfl, Chg.refl _, Own.nil _ _ _, fun b hb => (blkOf_none _ _ _ hb).elim⟩
  · refine does1 TryzT_ok Tryz.func56 Tryz.call56 Tryz.ntmps56 Tryz.results56 ?_
    conv => whnf
    refine bs0 (sz := 1) TryzT_ok (fun b1 w1 ho hsz hx => ?_)
    conv => whnf
    refine ap TryzT_ok ho (hs.ext hx) (by omega) (fun a c' w2 hap => ?_)
    conv => whnf
    rw [Nat.zero_add] at *
    refine ⟨a, c', rfl, hx.then hap.chg ?_, ?_, ?_⟩
    · intro b2 h2; simp at h2; omega
    · simpa using hap.own
    · intro b2 h2
      have := hx.size
      rcases hap.at_ b2 (by simpa using h2) with h | h
      · simp at h; omega
      · omega

/-- slices.Clone at secs: a copy of one's own; nil stays nil -/
theorem clone_secs {w : World} {v : Value} {n : Nat} {cs : List Value} (hs : Sl w v 36 1 n cs) (hb : n ≤ 274877906944) :
    Does Tryz.prog 33 [v] w fun v' w' => ∃ a c, v' = .slice a n c ∧ Ext w w' ∧ Own w' (.slice a n c) 36 1 n cs ∧ ∀ b, blkOf (.slice a n c) b → w.heap.size ≤ b := by
  have h := hs.2
  rcases hs.2 with ⟨c, rfl, h0⟩ | ⟨b, off, c, full, rfl, _⟩
  · refine does1 TryzT_ok Tryz.func33 Tryz.call33 Tryz.ntmps33 Tryz.results33 ?_
    conv => whnf
    subst h0
    have : cs = [] := List.eq_nil_of_length_eq_zero (by rw [hs.1, Nat.zero_mul])
    subst this
    exact ⟨none, 0, rfl, Chg.refl _, Own.nil _ _ _, fun b hb => (blkOf_none _ _ _ hb).elim⟩
  · refine does1 TryzT_ok Tryz.func33 Tryz.call33 Tryz.ntmps33 Tryz.results33 ?_
    conv => whnf
    refine bs0 (sz := 1) TryzT_ok (fun b1 w1 ho hsz hx => ?_)
    conv => whnf
    refine ap TryzT_ok ho (hs.ext hx) (by omega) (fun a c' w2 hap => ?_)
    conv => whnf
    rw [Nat.zero_add] at *
    refine ⟨a, c', rfl, hx.then hap.chg ?_, ?_, ?_⟩
    · intro b2 h2; simp at h2; omega
    · simpa using hap.own
    · intro b2 h2
      have := hx.size
      rcases hap.at_ b2 (by simpa using h2) with h | h
      · simp at h; omega
      · omega

/-- slices.Clone at objs: a copy of one's own; nil stays nil -/
theorem clone_objs {w : World} {v : Value} {n : Nat} {cs : List Value} (hs : Sl w v 45 6 n cs) (hb : n ≤ 274877906944) :
    Does Tryz.prog 81 [v] w fun v' w' => ∃ a c, v' = .slice a n c ∧ Ext w w' ∧ Own w' (.slice a n c) 45 6 n cs ∧ ∀ b, blkOf (.slice a n c) b → w.heap.size ≤ b := by
  have h := hs.2
  rcases hs.2 with ⟨c, rfl, h0⟩ | ⟨b, off, c, full, rfl, _⟩
  · refine does1 TryzT_ok Tryz.func81 Tryz.call81 Tryz.ntmps81 Tryz.results81 ?_
    conv => whnf
    subst h0
    have : cs = [] := List.eq_nil_of_length_eq_zero (by rw [hs.1, Nat.zero_mul])
    subst this
    exact ⟨none, 0, rfl, Chg.refl _, Own.nil _ _ _, fun b hb => (blkOf_none _ _ _ hb).elim⟩
  · refine does1 TryzT_ok Tryz.func81 Tryz.call81 Tryz.ntmps81 Tryz.results81 ?_
    conv => whnf
    refine bs0 (sz := 6) TryzT_ok (fun b1 w1 ho hsz hx => ?_)
    conv => whnf
    refine ap TryzT_ok ho (hs.ext hx) (by omega) (fun a c' w2 hap => ?_)
    conv => whnf
    rw [Nat.zero_add] at *
    refine ⟨a, c', rfl, hx.then hap.chg ?_, ?_, ?_⟩
    · intro b2 h2; simp at h2; omega
    · simpa using hap.own
    · intro b2 h2
      have := hx.size
      rcases hap.at_ b2 (by simpa using h2) with h | h
      · simp at h; omega
      · omega

/-- slices.Clone at rows: a copy of one's own; nil stays nil -/
theorem clone_rows {w : World} {v : Value} {n : Nat} {cs : List Value} (hs : Sl w v 120 2 n cs) (hb : n ≤ 274877906944) :
    Does Tryz.prog 82 [v] w fun v' w' => ∃ a c, v' = .slice a n c ∧ Ext w w' ∧ Own w' (.slice a n c) 120 2 n cs ∧ ∀ b, blkOf (.slice a n c) b → w.heap.size ≤ b := by
  have h := hs.2
  rcases hs.2 with ⟨c, rfl, h0⟩ | ⟨b, off, c, full, rfl, _⟩
  · refine does1 TryzT_ok Tryz.func82 Tryz.call82 Tryz.ntmps82 Tryz.results82 ?_
    conv => whnf
    subst h0
    have : cs = [] := List.eq_nil_of_length_eq_zero (by rw [hs.1, Nat.zero_mul])
    subst this
    exact ⟨none, 0, rfl, Chg.refl _, Own.nil _ _ _, fun b hb => (blkOf_none _ _ _ hb).elim⟩
  · refine does1 TryzT_ok Tryz.func82 Tryz.call82 Tryz.ntmps82 Tryz.results82 ?_
    conv => whnf
    refine bs0 (sz := 2) TryzT_ok (fun b1 w1 ho hsz hx => ?_)
    conv => whnf
    refine ap TryzT_ok ho (hs.ext hx) (by omega) (fun a c' w2 hap => ?_)
    conv => whnf
    rw [Nat.zero_add] at *
    refine ⟨a, c', rfl, hx.then hap.chg ?_, ?_, ?_⟩
    · intro b2 h2; simp at h2; omega
    · simpa using hap.own
    · intro b2 h2
      have := hx.size
      rcases hap.at_ b2 (by simpa using h2) with h | h
      · simp at h; omega
      · omega

/-- slices.Clone at msgs: a copy of one's own; nil stays nil -/
theorem clone_msgs {w : World} {v : Value} {n : Nat} {cs : List Value} (hs : Sl w v 33 6 n cs) (hb : n ≤ 274877906944) :
    Does Tryz.prog 83 [v] w fun v' w' => ∃ a c, v' = .slice a n c ∧ Ext w w' ∧ Own w' (.slice a n c) 33 6 n cs ∧ ∀ b, blkOf (.slice a n c) b → w.heap.size ≤ b := by
  have h := hs.2
  rcases hs.2 with ⟨c, rfl, h0⟩ | ⟨b, off, c, full, rfl, _⟩
  · refine does1 TryzT_ok Tryz.func83 Tryz.call83 Tryz.ntmps83 Tryz.results83 ?_
    conv => whnf
    subst h0
    have : cs = [] := List.eq_nil_of_length_eq_zero (by rw [hs.1, Nat.zero_mul])
    subst this
    exact ⟨none, 0, rfl, Chg.refl _, Own.nil _ _ _, fun b hb => (blkOf_none _ _ _ hb).elim⟩
  · refine does1 TryzT_ok Tryz.func83 Tryz.call83 Tryz.ntmps83 Tryz.results83 ?_
    conv => whnf
    refine bs0 (sz := 6) TryzT_ok (fun b1 w1 ho hsz hx => ?_)
    conv => whnf
    refine ap TryzT_ok ho (hs.ext hx) (by omega) (fun a c' w2 hap => ?_)
    conv => whnf
    rw [Nat.zero_add] at *
    refine ⟨a, c', rfl, hx.then hap.chg ?_, ?_, ?_⟩
    · intro b2 h2; simp at h2; omega
    · simpa using hap.own
    · intro b2 h2
      have := hx.size
      rcases hap.at_ b2 (by simpa using h2) with h | h
      · simp at h; omega
      · omega

end Go.Pst

namespace Go.Pst
open Go Go.Proofs

abbrev Sec := List UInt8
/-- a disk, as it is thought of -/
structure DSt where
  sure : List Sec
  now : List Sec
  unsure : List (Nat × Sec)
  left : Int
  broken : Bool
  written : Int

def TB : Nat := 5
def TS : Nat := 36
def TD : Nat := 75
def TW : Nat := 102

/-- one cell: a slice of bytes -/
def secC (w : World) (c : List Value) (s : Sec) : Prop := ∃ v, c = [v] ∧ Sl w v 5 1 s.length (B s)
/-- two cells: a number of a sector, its bytes -/
def wrC (w : World) (c : List Value) (x : Nat × Sec) : Prop := ∃ v, c = [.int .i64 (x.1 : Int), v] ∧ Sl w v 5 1 x.2.length (B x.2)

theorem secC.kp {w w' : World} {c : List Value} {s : Sec} (h : secC w c s) (hk : Kp 5 w w') : secC w' c s := by
  obtain ⟨v, h1, h2⟩ := h; exact ⟨v, h1, h2.kp hk⟩
theorem wrC.kp {w w' : World} {c : List Value} {s : Nat × Sec} (h : wrC w c s) (hk : Kp 5 w w') : wrC w' c s := by
  obtain ⟨v, h1, h2⟩ := h; exact ⟨v, h1, h2.kp hk⟩

/-- slice v, of one's own, has these sectors -/
def Secs (w : World) (v : Value) (l : List Sec) : Prop := ∃ cs, Own w v 36 1 l.length cs ∧ Rep 1 (secC w) cs l
def Wrs (w : World) (v : Value) (l : List (Nat × Sec)) : Prop := ∃ cs, Own w v 102 2 l.length cs ∧ Rep 2 (wrC w) cs l

theorem Secs.ext {w w' : World} {v : Value} {l : List Sec} (h : Secs w v l) (hx : Ext w w') : Secs w' v l := by
  obtain ⟨cs, h1, h2⟩ := h
  exact ⟨cs, h1.ext hx, h2.mono fun c x _ h => h.kp (hx.kp _)⟩
theorem Wrs.ext {w w' : World} {v : Value} {l : List (Nat × Sec)} (h : Wrs w v l) (hx : Ext w w') : Wrs w' v l := by
  obtain ⟨cs, h1, h2⟩ := h
  exact ⟨cs, h1.ext hx, h2.mono fun c x _ h => h.kp (hx.kp _)⟩
/-- another block is changed -/
theorem Secs.chg {M : Nat → Prop} {w w' : World} {v : Value} {l : List Sec} (h : Secs w v l) (hx : Chg M w w') (hm : ∀ b, blkOf v b → ¬ M b) (hk : Kp 5 w w') : Secs w' v l := by
  obtain ⟨cs, h1, h2⟩ := h
  exact ⟨cs, h1.chg hx hm, h2.mono fun c x _ h => h.kp hk⟩
theorem Wrs.chg {M : Nat → Prop} {w w' : World} {v : Value} {l : List (Nat × Sec)} (h : Wrs w v l) (hx : Chg M w w') (hm : ∀ b, blkOf v b → ¬ M b) (hk : Kp 5 w w') : Wrs w' v l := by
  obtain ⟨cs, h1, h2⟩ := h
  exact ⟨cs, h1.chg hx hm, h2.mono fun c x _ h => h.kp hk⟩
theorem Secs.blk {w : World} {v : Value} {l : List Sec} (h : Secs w v l) {b : Nat} (hb : blkOf v b) : ∃ cs, Blk w b 36 cs := by
  obtain ⟨cs, h1, h2⟩ := h; exact h1.blk hb
theorem Wrs.blk {w : World} {v : Value} {l : List (Nat × Sec)} (h : Wrs w v l) {b : Nat} (hb : blkOf v b) : ∃ cs, Blk w b 102 cs := by
  obtain ⟨cs, h1, h2⟩ := h; exact h1.blk hb

/-- a disk's struct and its three rows -/
structure Dk (w : World) (d : Nat) (cells : List Value) (vs vn vu : Value) (S N : List Sec) (U : List (Nat × Sec)) : Prop where
  blk : Blk w d 75 cells
  sure : Secs w vs S
  now : Secs w vn N
  uns : Wrs w vu U
  apart : ∀ b, blkOf vs b → ¬ blkOf vn b

theorem Dk.ext {w w' : World} {d : Nat} {cells : List Value} {vs vn vu : Value} {S N : List Sec} {U : List (Nat × Sec)} (h : Dk w d cells vs vn vu S N U) (hx : Ext w w') : Dk w' d cells vs vn vu S N U :=
  ⟨h.blk.ext hx, h.sure.ext hx, h.now.ext hx, h.uns.ext hx, h.apart⟩
theorem Dk.st {w w' : World} {d : Nat} {cells cells' : List Value} {vs vn vu : Value} {S N : List Sec} {U : List (Nat × Sec)} (h : Dk w d cells vs vn vu S N U) (hb : Blk w' d 75 cells') (hc : Chg (· = d) w w') : Dk w' d cells' vs vn vu S N U := by
  have hk := hc.kpb h.blk (E' := 5) (by decide)
  refine ⟨hb, h.sure.chg hc (fun x hbb e => ?_) hk, h.now.chg hc (fun x hbb e => ?_) hk, h.uns.chg hc (fun x hbb e => ?_) hk, h.apart⟩
  · subst e; obtain ⟨c, h2⟩ := h.sure.blk hbb; exact absurd (h2.inj h.blk).1 (by decide)
  · subst e; obtain ⟨c, h2⟩ := h.now.blk hbb; exact absurd (h2.inj h.blk).1 (by decide)
  · subst e; obtain ⟨c, h2⟩ := h.uns.blk hbb; exact absurd (h2.inj h.blk).1 (by decide)

/-- pointer d is a disk, in blocks from B0 on -/
def DiskR (B0 : Nat → Prop) (w : World) (d : Nat) (D : DSt) : Prop :=
  ∃ a1 n1 c1 a2 n2 c2 a3 n3 c3, Dk w d [.slice a1 n1 c1, .slice a2 n2 c2, .slice a3 n3 c3, .int .i64 D.left, .bool D.broken, .int .i64 D.written] (.slice a1 n1 c1) (.slice a2 n2 c2) (.slice a3 n3 c3) D.sure D.now D.unsure ∧
    B0 d ∧ (∀ b, blkOf (.slice a1 n1 c1) b → B0 b) ∧ (∀ b, blkOf (.slice a2 n2 c2) b → B0 b) ∧ (∀ b, blkOf (.slice a3 n3 c3) b → B0 b)

/-- the types of a disk's own blocks -/
def SD : List Nat := [75, 36, 102]

theorem DiskR.ext {B0 : Nat → Prop} {w w' : World} {d : Nat} {D : DSt} (h : DiskR B0 w d D) (hx : Ext w w') : DiskR B0 w' d D := by
  obtain ⟨a1, n1, c1, a2, n2, c2, a3, n3, c3, h1, h5⟩ := h
  exact ⟨a1, n1, c1, a2, n2, c2, a3, n3, c3, h1.ext hx, h5⟩

theorem DiskR.of {B0 : Nat → Prop} {w : World} {d : Nat} {a1 a2 a3 : Option Addr} {n1 c1 n2 c2 n3 c3 : Nat} {l wr : Int} {br : Bool} {S N : List Sec} {U : List (Nat × Sec)}
    (h : Dk w d [.slice a1 n1 c1, .slice a2 n2 c2, .slice a3 n3 c3, .int .i64 l, .bool br, .int .i64 wr] (.slice a1 n1 c1) (.slice a2 n2 c2) (.slice a3 n3 c3) S N U)
    (hB : B0 d) (hB1 : ∀ b, blkOf (.slice a1 n1 c1) b → B0 b) (hB2 : ∀ b, blkOf (.slice a2 n2 c2) b → B0 b) (hB3 : ∀ b, blkOf (.slice a3 n3 c3) b → B0 b) : DiskR B0 w d ⟨S, N, U, l, br, wr⟩ :=
  ⟨a1, n1, c1, a2, n2, c2, a3, n3, c3, h, hB, hB1, hB2, hB3⟩

theorem Secs.len {w : World} {a : Option Addr} {n c : Nat} {l : List Sec} (h : Secs w (.slice a n c) l) : n = l.length := by
  obtain ⟨cs, h1, _⟩ := h
  rcases h1.2 with ⟨hv, h0⟩ | ⟨b, c', rest, hv, _⟩
  · cases hv; omega
  · cases hv; rfl

theorem Wrs.len {w : World} {a : Option Addr} {n c : Nat} {l : List (Nat × Sec)} (h : Wrs w (.slice a n c) l) : n = l.length := by
  obtain ⟨cs, h1, _⟩ := h
  rcases h1.2 with ⟨hv, h0⟩ | ⟨b, c', rest, hv, _⟩
  · cases hv; omega
  · cases hv; rfl

/-- (d *Disk) Len -/
theorem disk_len {B0 : Nat → Prop} {w : World} {d : Nat} {D : DSt} (h : DiskR B0 w d D) :
    Does Tryz.prog 35 [.pointer (some ⟨d, 0, none⟩)] w fun v w' => v = .int .i64 (D.now.length : Int) ∧ w' = w := by
  obtain ⟨a1, n1, c1, a2, n2, c2, a3, n3, c3, ⟨h1, h2, h3, h4, hap⟩, h5⟩ := h
  refine does1 TryzT_ok Tryz.func35 Tryz.call35 Tryz.ntmps35 Tryz.results35 ?_
  conv => whnf
  refine ld TryzT_ok h1 ?_
  conv => whnf
  exact ⟨by rw [h3.len], rfl⟩

def dRead (D : DSt) (i : Int) : Sec := if 0 ≤ i then D.now.getD i.toNat [] else []

/-- (d *Disk) Read -/
theorem disk_read {B0 : Nat → Prop} {w : World} {d : Nat} {D : DSt} (h : DiskR B0 w d D) (hb : ∀ s ∈ D.now, s.length ≤ 274877906944) (i : Int) :
    Does Tryz.prog 29 [.pointer (some ⟨d, 0, none⟩), .int .i64 i] w fun v w' => ∃ a c, v = .slice a (dRead D i).length c ∧ Ext w w' ∧ Own w' (.slice a (dRead D i).length c) 5 1 (dRead D i).length (B (dRead D i)) ∧ ∀ b, blkOf (.slice a (dRead D i).length c) b → w.heap.size ≤ b := by
  have hlen := disk_len h
  obtain ⟨a1, n1, c1, a2, n2, c2, a3, n3, c3, ⟨h1, h2, h3, h4, hap⟩, h5⟩ := h
  have hn := h3.len
  have none : ∀ w', dRead D i = [] → w' = w → ∃ a c, Value.slice none 0 0 = .slice a (dRead D i).length c ∧ Ext w w' ∧ Own w' (.slice a (dRead D i).length c) 5 1 (dRead D i).length (B (dRead D i)) ∧ ∀ b, blkOf (.slice a (dRead D i).length c) b → w.heap.size ≤ b := by
    intro w' h hw
    subst hw
    rw [h]
    exact ⟨.none, 0, rfl, Chg.refl _, Own.nil _ _ _, fun b hb => (blkOf_none _ _ _ hb).elim⟩
  refine does1 TryzT_ok Tryz.func29 Tryz.call29 Tryz.ntmps29 Tryz.results29 ?_
  conv => whnf
  refine Cmp.dec (fun hi => ?_) (fun hi => ?_)
  · conv => whnf
    exact none w (by unfold dRead; rw [if_neg (by omega)]) rfl
  conv => whnf
  refine cl hlen ?_
  rintro v w' ⟨rfl, rfl⟩
  conv => whnf
  refine Cmp.dec (fun hi2 => ?_) (fun hi2 => ?_)
  · conv => whnf
    exact none w' (by unfold dRead; rw [if_pos (by omega), List.getD_eq_getElem?_getD, List.getElem?_eq_none (by omega)]; rfl) rfl
  conv => whnf
  refine ld TryzT_ok h1 ?_
  conv => whnf
  obtain ⟨cs, ho, hr⟩ := h3
  obtain ⟨b, off, c, hsl⟩ := ho.sl.some (by omega)
  cases hsl
  refine ia (sz := 1) TryzT_ok ?_ ?_
  · omega
  conv => whnf
  have hlt : i.toNat < D.now.length := by omega
  have hget : D.now[i.toNat]? = some (D.now[i.toNat]) := List.getElem?_eq_getElem hlt
  obtain ⟨⟨sv, hsv, hsl⟩, _⟩ := hr.get hget
  have hc := ho.sl.elem i.toNat (by omega)
  rw [hsv] at hc
  have hc0 := hc 0 sv rfl
  obtain ⟨a', c', rfl⟩ := hsl.isSlice
  refine OpR.ldC TryzT_ok hc0 ?_
  conv => whnf
  have hd : dRead D i = D.now[i.toNat] := by unfold dRead; rw [if_pos (by omega), List.getD_eq_getElem?_getD, hget]; rfl
  refine cl (clone_bytes hsl (hb _ (List.getElem_mem hlt))) ?_
  rintro v w1 ⟨a, c, rfl, hx, hown, hfr⟩
  conv => whnf
  rw [hd]
  exact ⟨a, c, rfl, hx, hown, hfr⟩

def dWriteOk (D : DSt) (i : Int) (b : Sec) : Bool := decide (0 ≤ i ∧ i < D.now.length ∧ b.length = 64) && !D.broken
def dWrite (D : DSt) (i : Int) (b : Sec) : DSt :=
  if dWriteOk D i b then
    { sure := D.sure, now := D.now.set i.toNat b, unsure := D.unsure ++ [(i.toNat, b)], left := if 0 < D.left then D.left - 1 else D.left,
      broken := if 0 < D.left then decide (D.left - 1 = 0) else D.broken, written := D.written + 1 }
  else D

/-- (d *Disk) Write -/
theorem disk_write {B0 : Nat → Prop} {w : World} {d : Nat} {D : DSt} {v : Value} {b : Sec} (h : DiskR B0 w d D) (hv : Sl w v 5 1 b.length (B b)) (hl : D.left < 9223372036854775808) (hw : -1000 ≤ D.written ∧ D.written < 4611686018427387904)
    (hu : D.unsure.length < 274877906944) (hB0 : ∀ b, w.heap.size ≤ b → B0 b) (i : Int) :
    Does Tryz.prog 142 [.pointer (some ⟨d, 0, none⟩), .int .i64 i, v] w fun r w' => r = .bool (dWriteOk D i b) ∧ DiskR B0 w' d (dWrite D i b) ∧ Mod B0 SD w w' := by
  have hlen := disk_len h
  have no : dWriteOk D i b = false → Value.bool false = .bool (dWriteOk D i b) ∧ DiskR B0 w d (dWrite D i b) ∧ Mod B0 SD w w := by
    intro hf
    rw [hf]
    refine ⟨rfl, ?_, Mod.refl _ _ _⟩
    unfold dWrite; rw [hf]; exact h
  obtain ⟨a1, n1, c1, a2, n2, c2, a3, n3, c3, hd, hB, hB1, hB2, hB3⟩ := h
  obtain ⟨av, cv, rfl⟩ := hv.isSlice
  refine does1 TryzT_ok Tryz.func142 Tryz.call142 Tryz.ntmps142 Tryz.results142 ?_
  refine go_cut (fun e w2 => dWriteOk D i b = true ∧ (0 ≤ i ∧ i < D.now.length) ∧ (∃ g, e = fr g [(0, .pointer (some ⟨d, 0, none⟩)), (1, .int .i64 i), (2, .slice av b.length cv)]) ∧
    Dk w2 d [.slice a1 n1 c1, .slice a2 n2 c2, .slice a3 n3 c3, .int .i64 (dWrite D i b).left, .bool (dWrite D i b).broken, .int .i64 D.written] (.slice a1 n1 c1) (.slice a2 n2 c2) (.slice a3 n3 c3) D.sure D.now D.unsure ∧
    Mod B0 SD w w2 ∧ Sl w2 (.slice av b.length cv) 5 1 b.length (B b)) 2 _ _ _ _ ?_ ?_
  · conv => whnf
    refine Cmp.dec (fun hi => ?_) (fun hi => ?_)
    · conv => whnf
      exact no (by simp [dWriteOk]; intros; omega)
    conv => whnf
    refine cl hlen ?_
    rintro v w' ⟨rfl, rfl⟩
    conv => whnf
    refine Cmp.dec (fun hi2 => ?_) (fun hi2 => ?_)
    · conv => whnf
      exact no (by simp [dWriteOk]; intros; omega)
    conv => whnf
    refine Cmp.split (fun h64 => ?_) (fun h64 => ?_)
    · conv => whnf
      exact no (by simp at h64; simp [dWriteOk]; intros; omega)
    conv => whnf
    refine ld TryzT_ok hd.blk ?_
    simp only [Bool.not_eq_false', decide_eq_true_eq] at h64
    cases hbr : D.broken with
    | true =>
      conv => whnf
      exact no (by simp [dWriteOk, hbr])
    | false =>
      have hok : dWriteOk D i b = true := by simp [dWriteOk, hbr]; omega
      conv => whnf
      refine ld TryzT_ok hd.blk ?_
      conv => whnf
      refine Cmp.dec (fun hl0 => ?_) (fun hl0 => ?_)
      · conv => whnf
        refine ld TryzT_ok hd.blk ?_
        conv => whnf
        refine Ar.i (by omega) ?_
        conv => whnf
        refine st TryzT_ok hd.blk ?_
        conv => whnf
        intro w1 hb1 hc1 hs1
        have hd1 := hd.st hb1 hc1
        conv => whnf
        refine ld TryzT_ok hd1.blk ?_
        conv => whnf
        refine Cmp.keep ?_
        conv => whnf
        refine st TryzT_ok hd1.blk ?_
        conv => whnf
        intro w2 hb2 hc2 hs2
        have hd2 := hd1.st hb2 hc2
        have hv2 := (hv.kp (hc1.kpb hd.blk (by decide))).kp (hc2.kpb hd1.blk (by decide))
        have hm2 : Mod B0 SD w' w2 := (hc1.modB hd.blk hB (by decide)).trans (hc2.modB hd1.blk hB (by decide))
        conv => whnf
        refine ⟨hok, by omega, mkfr _ ⟨rfl, rfl, rfl, trivial⟩, ?_, hm2, hv2⟩
        unfold dWrite; rw [if_pos hok]; simp only [if_pos hl0]; exact hd2
      · conv => whnf
        refine ⟨hok, by omega, mkfr _ ⟨rfl, rfl, rfl, trivial⟩, ?_, Mod.refl _ _ _, hv⟩
        unfold dWrite; rw [if_pos hok]; simp only [if_neg hl0]; exact hd
  rintro e w2 ⟨hok, hi, ⟨g, rfl⟩, hd2, hm2, hv2⟩
  conv => whnf
  refine cl (clone_bytes hv2 (by simp [dWriteOk] at hok; omega)) ?_
  rintro v w3 ⟨a4, c4, rfl, hx, ho, hfr⟩
  have hd3 := hd2.ext hx
  have hm3 : Mod B0 SD w w3 := hm2.trans hx.mod
  clear hd2 hv2 hm2
  conv => whnf
  refine ld TryzT_ok hd3.blk ?_
  conv => whnf
  have hn := hd3.now.len
  obtain ⟨cs, hon, hr⟩ := hd3.now
  obtain ⟨b2, o2, c2', hs2⟩ := hon.sl.some (by omega)
  cases hs2
  obtain ⟨rfl, rest, hnc, hb2, hl2⟩ := hon.opens
  refine ia (sz := 1) TryzT_ok ?_ ?_
  · omega
  conv => whnf
  have hcl := hr.len
  refine stR TryzT_ok hb2 ?_ ?_
  · simp; omega
  conv => whnf
  intro w4 hb4 hc4 hs4
  have hi4 : 0 + i.toNat * 1 = i.toNat := by omega
  rw [hi4] at hb4
  have hon4 := hon.set hnc hl2 hb4 (by omega)
  have hk4 := hc4.kpb hb2 (E' := 5) (by decide)
  have hown4 := ho.sl.kp hk4
  have hr4 := (hr.mono (R' := secC w4) fun c x _ h => h.kp hk4).set1 i.toNat (by omega) (x := b) ⟨_, rfl, hown4⟩
  have hd4 : Dk w4 d [.slice a1 n1 c1, .slice (some ⟨b2, 0, none⟩) D.now.length c2, .slice a3 n3 c3, .int .i64 (dWrite D i b).left, .bool (dWrite D i b).broken, .int .i64 D.written] (.slice a1 n1 c1) (.slice (some ⟨b2, 0, none⟩) D.now.length c2) (.slice a3 n3 c3) D.sure (D.now.set i.toNat b) D.unsure := by
    refine ⟨hd3.blk.kp (hc4.kpb hb2 (by decide)), hd3.sure.chg hc4 (fun x hx e => hd3.apart x hx (by simp [e])) hk4, ⟨_, by simpa using hon4, hr4⟩, hd3.uns.chg hc4 (fun x hx e => ?_) hk4, hd3.apart⟩
    obtain ⟨c, h2⟩ := hd3.uns.blk hx
    subst e; exact absurd (h2.inj hb2).1 (by decide)
  have hm4 : Mod B0 SD w w4 := hm3.trans (hc4.modB hb2 (hB2 b2 (by simp)) (by decide))
  clear hd3 hm3 hon4 hr4 hb4 hon hr
  conv => whnf
  refine ld TryzT_ok hd4.blk ?_
  conv => whnf
  refine bs (sz := 2) TryzT_ok ?_
  conv => whnf
  refine ⟨rfl, fun b5 w5 ho5 hs5 hx5 => ?_⟩
  have hd5 := hd4.ext hx5
  have hm5 := hm4.trans hx5.mod
  have hown5 := hown4.ext hx5
  clear hd4 hm4 hown4
  have hn3 := hd5.uns.len
  obtain ⟨cu, hou, hru⟩ := hd5.uns
  subst hn3
  conv => whnf
  refine ap TryzT_ok hou ho5.sl (by omega) (fun a6 c6 w6 hap => ?_)
  have hk6 := hap.kp hou (E' := 5) (by decide)
  have hd6 : Dk w6 d [.slice a1 n1 c1, .slice (some ⟨b2, 0, none⟩) D.now.length c2, .slice a3 D.unsure.length c3, .int .i64 (dWrite D i b).left, .bool (dWrite D i b).broken, .int .i64 D.written] (.slice a1 n1 c1) (.slice (some ⟨b2, 0, none⟩) D.now.length c2) (.slice a6 (D.unsure.length + 1) c6) D.sure (D.now.set i.toNat b) (D.unsure ++ [(i.toNat, b)]) := by
    refine ⟨hd5.blk.kp (hap.kp hou (by decide)), hd5.sure.chg hap.chg (fun x hx e => ?_) hk6, hd5.now.chg hap.chg (fun x hx e => ?_) hk6, ⟨_, by simpa using hap.own, ?_⟩, hd5.apart⟩
    · obtain ⟨c, h2⟩ := hd5.sure.blk hx
      obtain ⟨c', h3⟩ := hd5.uns.blk e
      exact absurd (h2.inj h3).1 (by decide)
    · obtain ⟨c, h2⟩ := hd5.now.blk hx
      obtain ⟨c', h3⟩ := hd5.uns.blk e
      exact absurd (h2.inj h3).1 (by decide)
    · refine Rep.append (hru.mono fun c x _ h => h.kp hk6) (Rep.one rfl ⟨_, ?_, hown5.kp hk6⟩)
      have : ((i.toNat : Nat) : Int) = i := by omega
      rw [this]
  have hm6 : Mod B0 SD w w6 := hm5.trans (hap.chg.mono fun x hx e => ⟨hB3 x e, _, _, (hd5.uns.blk e).choose_spec, by decide⟩)
  have hB6 : ∀ b, blkOf (.slice a6 (D.unsure.length + 1) c6) b → B0 b := by
    intro x hx
    rcases hap.at_ x hx with h | h
    · exact hB3 x h
    · exact hB0 x (by have := hm5.size; omega)
  clear hd5 hm5 hap hou hru hown5 hk6
  conv => whnf
  refine st TryzT_ok hd6.blk ?_
  conv => whnf
  intro w7 hb7 hc7 hs7
  have hd7 := hd6.st hb7 hc7
  have hm7 := hm6.trans (hc7.modB hd6.blk hB (by decide))
  clear hd6 hm6 hb7
  conv => whnf
  refine ld TryzT_ok hd7.blk ?_
  conv => whnf
  refine Ar.i (by omega) ?_
  conv => whnf
  refine st TryzT_ok hd7.blk ?_
  conv => whnf
  intro w8 hb8 hc8 hs8
  have hd8 := hd7.st hb8 hc8
  have hm8 := hm7.trans (hc8.modB hd7.blk hB (by decide))
  conv => whnf
  refine ⟨by rw [hok], ⟨_, _, _, _, _, _, _, _, _, ?_, hB, hB1, hB2, hB6⟩, hm8⟩
  have e : dWrite D i b = { sure := D.sure, now := D.now.set i.toNat b, unsure := D.unsure ++ [(i.toNat, b)], left := (dWrite D i b).left, broken := (dWrite D i b).broken, written := D.written + 1 } := by
    unfold dWrite; rw [if_pos hok]
  rw [e]
  exact hd8
end Go.Pst

namespace Go.Pst
open Go Go.Proofs

def dSync (D : DSt) : DSt := if D.broken then D else { D with sure := D.now, unsure := [] }
theorem Secs.of {w : World} {v : Value} {l : List Sec} {cs : List Value} (ho : Own w v 36 1 l.length cs) (hr : Rep 1 (secC w) cs l) : Secs w v l := ⟨cs, ho, hr⟩
theorem Wrs.nil (w : World) : Wrs w (.slice none 0 0) [] := ⟨[], Own.nil _ _ _, rfl⟩

/-- (d *Disk) Sync -/
theorem disk_sync {B0 : Nat → Prop} {w : World} {d : Nat} {D : DSt} (h : DiskR B0 w d D) (hb : D.now.length ≤ 274877906944) (hB0 : ∀ b, w.heap.size ≤ b → B0 b) :
    Does Tryz.prog 141 [.pointer (some ⟨d, 0, none⟩)] w fun r w' => r = .bool (!D.broken) ∧ DiskR B0 w' d (dSync D) ∧ Mod B0 SD w w' := by
  obtain ⟨a1, n1, c1, a2, n2, c2, a3, n3, c3, hd, hB, hB1, hB2, hB3⟩ := h
  refine does1 TryzT_ok Tryz.func141 Tryz.call141 Tryz.ntmps141 Tryz.results141 ?_
  conv => whnf
  refine ld TryzT_ok hd.blk ?_
  cases hbr : D.broken with
  | true =>
    conv => whnf
    refine ⟨rfl, ?_, Mod.refl _ _ _⟩
    unfold dSync; rw [if_pos hbr]
    exact ⟨a1, n1, c1, a2, n2, c2, a3, n3, c3, hd, hB, hB1, hB2, hB3⟩
  | false =>
    conv => whnf
    refine ld TryzT_ok hd.blk ?_
    conv => whnf
    have hn := hd.now.len
    obtain ⟨cs, hon, hr⟩ := hd.now
    subst hn
    refine cl (clone_secs hon.sl hb) ?_
    rintro v w1 ⟨a, c, rfl, hx, ho, hfr⟩
    have hd1 := hd.ext hx
    conv => whnf
    refine st TryzT_ok hd1.blk ?_
    conv => whnf
    intro w2 hb2 hc2 hs2
    have hd2 := hd1.st hb2 hc2
    have hk2 := hc2.kpb hd1.blk (E' := 5) (by decide)
    have hS : Secs w2 (.slice a D.now.length c) D.now := ⟨cs, ho.kp (hc2.kpb hd1.blk (by decide)), hr.mono fun _ _ _ h => (h.kp (hx.kp _)).kp hk2⟩
    have hm2 : Mod B0 SD w w2 := (hx.mod).trans (hc2.modB hd1.blk hB (by decide))
    have hap : ∀ b, blkOf (.slice a D.now.length c) b → ¬ blkOf (.slice a2 D.now.length c2) b := by
      intro b h1 h2
      obtain ⟨x, h3⟩ := hon.blk h2
      have := hfr b h1; have := h3.lt; omega
    have hd2' : Dk w2 d _ _ _ _ _ _ _ := ⟨hd2.blk, hS, hd2.now, hd2.uns, hap⟩
    clear hd2 hd1 hS
    conv => whnf
    refine st TryzT_ok hd2'.blk ?_
    conv => whnf
    intro w3 hb3 hc3 hs3
    have hd3 := hd2'.st hb3 hc3
    have hm3 := hm2.trans (hc3.modB hd2'.blk hB (by decide))
    conv => whnf
    refine ⟨rfl, ?_, hm3⟩
    have e : dSync D = ⟨D.now, D.now, [], D.left, D.broken, D.written⟩ := by unfold dSync; rw [if_neg (by simp [hbr])]
    rw [e]
    exact DiskR.of ⟨hd3.blk, hd3.sure, hd3.now, Wrs.nil _, hd3.apart⟩ hB (fun b hb => hB0 b (by have := hfr b hb; omega)) hB2 (fun b hb => (blkOf_none _ _ _ hb).elim)

def dBreak (D : DSt) (n : Int) : DSt := if D.broken then D else { D with left := max 0 n, broken := decide (max 0 n = 0) }

/-- (d *Disk) Break -/
theorem disk_break {B0 : Nat → Prop} {w : World} {d : Nat} {D : DSt} (h : DiskR B0 w d D) (n : Int) :
    Does Tryz.prog 26 [.pointer (some ⟨d, 0, none⟩), .int .i64 n] w fun _ w' => DiskR B0 w' d (dBreak D n) ∧ Mod B0 SD w w' := by
  obtain ⟨a1, n1, c1, a2, n2, c2, a3, n3, c3, hd, hB, hB1, hB2, hB3⟩ := h
  refine does0 TryzT_ok Tryz.func26 Tryz.call26 Tryz.ntmps26 Tryz.results26 ?_
  conv => whnf
  refine ld TryzT_ok hd.blk ?_
  cases hbr : D.broken with
  | true =>
    conv => whnf
    refine ⟨?_, Mod.refl _ _ _⟩
    unfold dBreak; rw [if_pos hbr]
    exact ⟨a1, n1, c1, a2, n2, c2, a3, n3, c3, hd, hB, hB1, hB2, hB3⟩
  | false =>
    conv => whnf
    refine st TryzT_ok hd.blk ?_
    conv => whnf
    intro w1 hb1 hc1 hs1
    have hd1 := hd.st hb1 hc1
    conv => whnf
    refine ld TryzT_ok hd1.blk ?_
    conv => whnf
    refine Cmp.keep ?_
    conv => whnf
    refine st TryzT_ok hd1.blk ?_
    conv => whnf
    intro w2 hb2 hc2 hs2
    have hd2 := hd1.st hb2 hc2
    conv => whnf
    refine ⟨?_, (hc1.modB hd.blk hB (by decide)).trans (hc2.modB hd1.blk hB (by decide))⟩
    have e : dBreak D n = ⟨D.sure, D.now, D.unsure, max 0 n, decide (max 0 n = 0), D.written⟩ := by unfold dBreak; rw [if_neg (by simp [hbr])]
    rw [e]
    exact DiskR.of hd2 hB hB1 hB2 hB3

/-- (d *Disk) Writes -/
theorem disk_writes {B0 : Nat → Prop} {w : World} {d : Nat} {D : DSt} (h : DiskR B0 w d D) :
    Does Tryz.prog 18 [.pointer (some ⟨d, 0, none⟩)] w fun v w' => v = .int .i64 D.written ∧ w' = w := by
  obtain ⟨a1, n1, c1, a2, n2, c2, a3, n3, c3, hd, h5⟩ := h
  refine does1 TryzT_ok Tryz.func18 Tryz.call18 Tryz.ntmps18 Tryz.results18 ?_
  conv => whnf
  refine ld TryzT_ok hd.blk ?_
  conv => whnf
  exact ⟨rfl, rfl⟩

def settle (keep : List Bool) : Nat → List (Nat × Sec) → List Sec → List Sec
  | _, [], s => s
  | i, x :: l, s => settle keep (i + 1) l (if keep.getD i false then s.set x.1 x.2 else s)
theorem settle_len (keep : List Bool) (i : Nat) (l : List (Nat × Sec)) (s : List Sec) : (settle keep i l s).length = s.length := by
  induction l generalizing i s with
  | nil => rfl
  | cons x l ih => unfold settle; rw [ih]; split <;> simp
theorem settle_snoc (keep : List Bool) (i : Nat) (l : List (Nat × Sec)) (x : Nat × Sec) (s : List Sec) :
    settle keep i (l ++ [x]) s = if keep.getD (i + l.length) false then (settle keep i l s).set x.1 x.2 else settle keep i l s := by
  induction l generalizing i s with
  | nil => simp [settle]
  | cons y l ih => simp only [List.cons_append, settle, ih, List.length_cons]; rw [show i + 1 + l.length = i + (l.length + 1) from by omega]
def dCrash (D : DSt) (keep : List Bool) : DSt :=
  let s := settle keep 0 D.unsure D.sure
  { sure := s, now := s, unsure := [], left := -1, broken := false, written := D.written }

/-- (d *Disk) Crash -/
theorem disk_crash {B0 : Nat → Prop} {w : World} {d : Nat} {D : DSt} {kv : Value} {keep : List Bool} (h : DiskR B0 w d D) (hk : Sl w kv 4 1 keep.length (keep.map Value.bool)) (hn : D.sure.length ≤ 274877906944)
    (hu : ∀ x ∈ D.unsure, x.1 < D.sure.length) (hul : D.unsure.length ≤ 274877906944) (hkl : keep.length ≤ 274877906944) (hB0 : ∀ b, w.heap.size ≤ b → B0 b) :
    Does Tryz.prog 24 [.pointer (some ⟨d, 0, none⟩), kv] w fun _ w' => DiskR B0 w' d (dCrash D keep) ∧ Mod B0 SD w w' := by
  obtain ⟨a1, n1, c1, a2, n2, c2, a3, n3, c3, hd, hB, hB1, hB2, hB3⟩ := h
  obtain ⟨ak, ck, rfl⟩ := hk.isSlice
  refine does0 TryzT_ok Tryz.func24 Tryz.call24 Tryz.ntmps24 Tryz.results24 ?_
  conv => whnf
  refine ld TryzT_ok hd.blk ?_
  conv => whnf
  have hlu := hd.uns.len
  obtain ⟨cu, hou, hru⟩ := hd.uns
  subst hlu
  refine Cw.loopD TryzT_ok (ι := Nat) (fun k e w' => k ≤ D.unsure.length ∧ (∃ g, e = fr g [(0, .pointer (some ⟨d, 0, none⟩)), (1, .slice ak keep.length ck), (11, .slice a3 D.unsure.length c3), (12, .int .i64 (D.unsure.length : Int)), (13, .int .i64 (k : Int))]) ∧
    Dk w' d [.slice a1 n1 c1, .slice a2 n2 c2, .slice a3 D.unsure.length c3, .int .i64 D.left, .bool D.broken, .int .i64 D.written] (.slice a1 n1 c1) (.slice a2 n2 c2) (.slice a3 D.unsure.length c3) (settle keep 0 (D.unsure.take k) D.sure) D.now D.unsure ∧ Mod B0 SD w w')
    (fun k => D.unsure.length - k) 0 ⟨Nat.zero_le _, mkfr _ ⟨rfl, rfl, rfl, rfl, rfl, trivial⟩, hd, Mod.refl _ _ _⟩ ?_
  rintro k e w1 ⟨hkle, ⟨g, rfl⟩, hd1, hm1⟩
  conv => whnf
  refine Cmp.dec (fun hlt => ?_) (fun hlt => ?_)
  · have hlt : k < D.unsure.length := by omega
    conv => whnf
    obtain ⟨cu1, hou1, hru1⟩ := hd1.uns
    obtain ⟨b3, o3, c3', h3⟩ := hou1.sl.some (by omega)
    cases h3
    refine ia (sz := 2) TryzT_ok ?_ ?_
    · omega
    conv => whnf
    have hget : D.unsure[k]? = some D.unsure[k] := List.getElem?_eq_getElem hlt
    obtain ⟨⟨sv, hsv, hsl⟩, _⟩ := hru1.get hget
    have hc := hou1.sl.elem k hlt
    rw [hsv] at hc
    obtain ⟨asv, csv, rfl⟩ := hsl.isSlice
    refine ldA TryzT_ok hc ?_
    conv => whnf
    refine al TryzT_ok ?_
    conv => whnf
    intro b4 w4 hb4 hs4 hx4 hsz4
    conv => whnf
    refine stA TryzT_ok hb4 ?_
    conv => whnf
    intro w5 hb5 hc5 hs5
    have hx5 : Ext w1 w5 := hx4.then hc5 fun b h => by omega
    have hd5 := hd1.ext hx5
    have hk5 := (hk.kp (hm1.kp (by decide))).ext hx5
    have hm5 := hm1.trans hx5.mod
    have hsl5 := hsl.ext hx5
    clear hb4 hx4 hsz4 hc5 hs5 hx5 hd1 hm1 hsl hou1 hru1 hc
    conv => whnf
    -- the round's end
    have fin : ∀ e' w6, (∃ g, e' = fr g [(0, .pointer (some ⟨d, 0, none⟩)), (1, .slice ak keep.length ck), (11, .slice (some ⟨b3, o3, none⟩) D.unsure.length c3), (12, .int .i64 (D.unsure.length : Int)), (13, .int .i64 ((k + 1 : Nat) : Int))]) →
        Dk w6 d [.slice a1 n1 c1, .slice a2 n2 c2, .slice (some ⟨b3, o3, none⟩) D.unsure.length c3, .int .i64 D.left, .bool D.broken, .int .i64 D.written] (.slice a1 n1 c1) (.slice a2 n2 c2) (.slice (some ⟨b3, o3, none⟩) D.unsure.length c3)
          (if keep.getD k false then (settle keep 0 (D.unsure.take k) D.sure).set D.unsure[k].1 D.unsure[k].2 else settle keep 0 (D.unsure.take k) D.sure) D.now D.unsure → Mod B0 SD w w6 →
        ∃ y, (y ≤ D.unsure.length ∧ (∃ g, e' = fr g [(0, .pointer (some ⟨d, 0, none⟩)), (1, .slice ak keep.length ck), (11, .slice (some ⟨b3, o3, none⟩) D.unsure.length c3), (12, .int .i64 (D.unsure.length : Int)), (13, .int .i64 (y : Int))]) ∧
          Dk w6 d [.slice a1 n1 c1, .slice a2 n2 c2, .slice (some ⟨b3, o3, none⟩) D.unsure.length c3, .int .i64 D.left, .bool D.broken, .int .i64 D.written] (.slice a1 n1 c1) (.slice a2 n2 c2) (.slice (some ⟨b3, o3, none⟩) D.unsure.length c3) (settle keep 0 (D.unsure.take y) D.sure) D.now D.unsure ∧ Mod B0 SD w w6) ∧ D.unsure.length - y < D.unsure.length - k := by
      intro e' w6 h1 h2 h3
      refine ⟨k + 1, ⟨by omega, h1, ?_, h3⟩, by omega⟩
      have e1 : D.unsure.take (k + 1) = D.unsure.take k ++ [D.unsure[k]] := by rw [List.take_succ_eq_append_getElem hlt]
      rw [e1, settle_snoc, List.length_take, Nat.min_eq_left (by omega), Nat.zero_add]
      exact h2
    refine Cmp.dec (fun hk1 => ?_) (fun hk1 => ?_)
    · have hk1 : k < keep.length := by omega
      conv => whnf
      obtain ⟨bk, ok, ck', hkk⟩ := hk5.some (by omega)
      cases hkk
      refine ia (sz := 1) TryzT_ok ?_ ?_
      · omega
      conv => whnf
      have hck := hk5.elem k hk1
      have hcell : w5.cell? ⟨bk, ok + k * 1, none⟩ = some (.bool (keep.getD k false)) := by
        have := hck 0 (.bool (keep.getD k false)) (by simp [hk1])
        simpa using this
      refine OpR.ldC TryzT_ok hcell ?_
      cases hkb : keep.getD k false with
      | true =>
        rw [hkb] at fin
        conv => whnf
        refine draw TryzT_ok Tryz_mixed (fun w6 hx6 _ => ?_)
        have hd6 := hd5.ext hx6
        have hb6 := hb5.ext hx6
        have hm6 := hm5.trans hx6.mod
        have hsl6 := hsl5.ext hx6
        clear hd5 hb5 hm5 hsl5 hk5
        conv => whnf
        refine ldL TryzT_ok hd6.blk ?_
        conv => whnf
        refine ldL TryzT_ok hb6 ?_
        conv => whnf
        refine ldL TryzT_ok hb6 ?_
        conv => whnf
        have hsl1 := hd6.sure.len
        have hset := settle_len keep 0 (D.unsure.take k) D.sure
        have hat := hu _ (List.getElem_mem hlt)
        obtain ⟨cs1, hos, hrs⟩ := hd6.sure
        obtain ⟨b1, o1, c1', h1⟩ := hos.sl.some (by omega)
        cases h1
        obtain ⟨rfl, rest, hnc, hb1, hl1⟩ := hos.opens
        refine ia (sz := 1) TryzT_ok ?_ ?_
        · omega
        conv => whnf
        have hcl := hrs.len
        refine stR TryzT_ok hb1 ?_ ?_
        · simp; omega
        conv => whnf
        intro w7 hb7 hc7 hs7
        have hi7 : 0 + (D.unsure[k].1 : Int).toNat * 1 = D.unsure[k].1 := by omega
        rw [hi7] at hb7
        have hos7 := hos.set hnc hl1 hb7 (by omega)
        have hk7 := hc7.kpb hb1 (E' := 5) (by decide)
        have hrs7 := (hrs.mono (R' := secC w7) fun c x _ h => h.kp hk7).set1 D.unsure[k].1 (by omega) (x := D.unsure[k].2) ⟨_, rfl, hsl6.kp hk7⟩
        have hd7 : Dk w7 d [.slice (some ⟨b1, 0, none⟩) (settle keep 0 (D.unsure.take k) D.sure).length c1, .slice a2 n2 c2, .slice (some ⟨b3, o3, none⟩) D.unsure.length c3, .int .i64 D.left, .bool D.broken, .int .i64 D.written] (.slice (some ⟨b1, 0, none⟩) (settle keep 0 (D.unsure.take k) D.sure).length c1) (.slice a2 n2 c2) (.slice (some ⟨b3, o3, none⟩) D.unsure.length c3) ((settle keep 0 (D.unsure.take k) D.sure).set D.unsure[k].1 D.unsure[k].2) D.now D.unsure := by
          refine ⟨hd6.blk.kp (hc7.kpb hb1 (by decide)), ⟨_, by simpa using hos7, hrs7⟩, hd6.now.chg hc7 (fun x hx e => hd6.apart x (by simp [e]) hx) hk7, hd6.uns.chg hc7 (fun x hx e => ?_) hk7, hd6.apart⟩
          obtain ⟨c, h2⟩ := hd6.uns.blk hx
          subst e; exact absurd (h2.inj hb1).1 (by decide)
        have hm7 : Mod B0 SD w w7 := hm6.trans (hc7.modB hb1 (hB1 b1 (by simp)) (by decide))
        conv => whnf
        refine Ar.i (by omega) ?_
        conv => whnf
        refine fin _ _ (mkfr _ ⟨rfl, rfl, rfl, rfl, rfl, trivial⟩) ?_ hm7
        rw [if_pos rfl]
        exact hd7
      | false =>
        rw [hkb] at fin
        conv => whnf
        refine Ar.i (by omega) ?_
        conv => whnf
        exact fin _ _ (mkfr _ ⟨rfl, rfl, rfl, rfl, rfl, trivial⟩) (by rw [if_neg (by simp)]; exact hd5) hm5
    · have hkb : keep.getD k false = false := by rw [List.getD_eq_getElem?_getD, List.getElem?_eq_none (by omega)]; rfl
      rw [hkb] at fin
      conv => whnf
      refine Ar.i (by omega) ?_
      conv => whnf
      exact fin _ _ (mkfr _ ⟨rfl, rfl, rfl, rfl, rfl, trivial⟩) (by rw [if_neg (by simp)]; exact hd5) hm5
  · have hke : k = D.unsure.length := by omega
    subst hke
    rw [List.take_length] at hd1
    conv => whnf
    refine ld TryzT_ok hd1.blk ?_
    conv => whnf
    have hn1 := hd1.sure.len
    have hset := settle_len keep 0 D.unsure D.sure
    obtain ⟨cs, hos, hrs⟩ := hd1.sure
    subst hn1
    refine cl (clone_secs hos.sl (by omega)) ?_
    rintro v w2 ⟨a, c, rfl, hx2, ho2, hfr⟩
    have hd2 := hd1.ext hx2
    have hm2 := hm1.trans hx2.mod
    have hrs2 := hrs.mono (R' := secC w2) fun c x _ h => h.kp (hx2.kp _)
    conv => whnf
    refine st TryzT_ok hd2.blk ?_
    conv => whnf
    intro w3 hb3 hc3 hs3
    have hd3 := hd2.st hb3 hc3
    have hm3 := hm2.trans (hc3.modB hd2.blk hB (by decide))
    have hk3 := hc3.kpb hd2.blk (E' := 5) (by decide)
    have hN : Secs w3 (.slice a (settle keep 0 D.unsure D.sure).length c) (settle keep 0 D.unsure D.sure) := ⟨cs, ho2.kp (hc3.kpb hd2.blk (by decide)), hrs2.mono fun _ _ _ h => h.kp hk3⟩
    have hap : ∀ b, blkOf (.slice a1 (settle keep 0 D.unsure D.sure).length c1) b → ¬ blkOf (.slice a (settle keep 0 D.unsure D.sure).length c) b := by
      intro b h1 h2
      obtain ⟨x, h3⟩ := hos.blk h1
      have := hfr b h2; have := h3.lt; omega
    have hd3' : Dk w3 d _ _ _ _ _ _ _ := ⟨hd3.blk, hd3.sure, hN, hd3.uns, hap⟩
    clear hd3 hd2 hd1 hb3
    conv => whnf
    refine st TryzT_ok hd3'.blk ?_
    conv => whnf
    intro w4 hb4 hc4 hs4
    have hd4 := hd3'.st hb4 hc4
    have hm4 := hm3.trans (hc4.modB hd3'.blk hB (by decide))
    conv => whnf
    refine st TryzT_ok hd4.blk ?_
    conv => whnf
    intro w5 hb5 hc5 hs5
    have hd5 := hd4.st hb5 hc5
    have hm5 := hm4.trans (hc5.modB hd4.blk hB (by decide))
    conv => whnf
    refine st TryzT_ok hd5.blk ?_
    conv => whnf
    intro w6 hb6 hc6 hs6
    have hd6 := hd5.st hb6 hc6
    have hm6 := hm5.trans (hc6.modB hd5.blk hB (by decide))
    conv => whnf
    refine ⟨?_, hm6⟩
    have hwB : w.heap.size ≤ w1.heap.size := hm1.size
    exact DiskR.of ⟨hd6.blk, hd6.sure, hd6.now, Wrs.nil _, hd6.apart⟩ hB hB1 (fun b hb => hB0 b (by have := hfr b hb; omega)) (fun b hb => (blkOf_none _ _ _ hb).elim)
end Go.Pst

namespace Go.Pst
open Go Go.Proofs

theorem zeroB (n : Nat) : (List.replicate n (Value.int .u8 0).cells.toList).flatten = B (List.replicate n 0) := by
  induction n with
  | zero => rfl
  | succ n ih => rw [List.replicate_succ, List.flatten_cons, ih]; rfl

def zsec : Sec := List.replicate 64 0
def dNew (n : Int) : DSt := ⟨List.replicate (max 0 (min n 4096)).toNat zsec, List.replicate (max 0 (min n 4096)).toNat zsec, [], -1, false, 0⟩

/-- New -/
theorem disk_new (w : World) (n : Int) :
    Does Tryz.prog 10 [.int .i64 n] w fun v w' => ∃ d, v = .pointer (some ⟨d, 0, none⟩) ∧ DiskR (fun b => w.heap.size ≤ b) w' d (dNew n) ∧ Ext w w' := by
  refine does1 TryzT_ok Tryz.func10 Tryz.call10 Tryz.ntmps10 Tryz.results10 ?_
  conv => whnf
  refine bx ?_
  conv => whnf
  intro d w1 hb1 hs1 hx1 hsz1
  conv => whnf
  refine Cw.loopD TryzT_ok (ι := Nat) (fun k e w' => (k : Int) ≤ max 0 (min n 4096) ∧ (∃ g, e = fr g [(3, .pointer (some ⟨d, 0, none⟩)), (8, .int .i64 (max 0 (min n 4096))), (9, .int .i64 (k : Int))]) ∧
    ∃ a c, Blk w' d 75 [.slice a k c, .slice none 0 0, .slice none 0 0, .int .i64 (-1), .bool false, .int .i64 0] ∧ Secs w' (.slice a k c) (List.replicate k zsec) ∧ Ext w w' ∧ (∀ b, blkOf (.slice a k c) b → w.heap.size ≤ b))
    (fun k => (max 0 (min n 4096)).toNat - k) 0 ⟨by omega, mkfr _ ⟨rfl, rfl, rfl, trivial⟩, none, 0, hb1, ⟨[], Own.nil _ _ _, rfl⟩, hx1, fun b hb => (blkOf_none _ _ _ hb).elim⟩ ?_
  rintro k e w2 ⟨hk, ⟨g, rfl⟩, a, c, hb2, ⟨cs, ho2, hr2⟩, hx2, hfr⟩
  rw [List.length_replicate] at ho2
  conv => whnf
  refine Cmp.dec (fun hlt => ?_) (fun hlt => ?_)
  · conv => whnf
    refine draw TryzT_ok Tryz_mixed (fun w3 hx3 _ => ?_)
    have hb3 := hb2.ext hx3
    have ho3 := ho2.ext hx3
    have hr3 := hr2.mono (R' := secC w3) fun c x _ h => h.kp (hx3.kp _)
    have hx3' := hx2.trans hx3
    clear hb2 ho2 hr2 hx2 hx3
    conv => whnf
    refine ldL TryzT_ok hb3 ?_
    conv => whnf
    refine mk (sz := 1) (n := 64) TryzT_ok (by omega) (fun b4 w4 ho4 hs4 hx4 => ?_)
    have hb4 := hb3.ext hx4
    have ho3' := ho3.ext hx4
    have hr4 := hr3.mono (R' := secC w4) fun c x _ h => h.kp (hx4.kp _)
    have hx4' := hx3'.trans hx4
    clear hb3 ho3 hr3 hx3' hx4 hs4
    conv => whnf
    refine ⟨hb4.cell 0, ?_⟩
    conv => whnf
    refine bs (sz := 1) TryzT_ok ?_
    conv => whnf
    refine ⟨rfl, fun b5 w5 ho5 hs5 hx5 => ?_⟩
    have hb5 := hb4.ext hx5
    have ho3'' := ho3'.ext hx5
    have hr5 := hr4.mono (R' := secC w5) fun c x _ h => h.kp (hx5.kp _)
    have hx5' := hx4'.trans hx5
    have ho4' := ho4.ext hx5
    clear hb4 ho3' hr4 hx4' hx5 hs5 ho4
    conv => whnf
    refine ⟨hb5.cell 0, ?_⟩
    conv => whnf
    refine ap TryzT_ok ho3'' ho5.sl (by omega) (fun a6 c6 w6 hap => ?_)
    have hk6 := hap.kp ho3'' (E' := 5) (by decide)
    have hb6 := hb5.kp (hap.kp ho3'' (E' := 75) (by decide))
    have hx6 : Ext w w6 := hx5'.then hap.chg hfr
    have hs6 : Secs w6 (.slice a6 (k + 1) c6) (List.replicate (k + 1) zsec) := by
      refine ⟨_, by simpa using hap.own, ?_⟩
      rw [List.replicate_succ']
      refine (hr5.mono fun c x _ h => h.kp hk6).append (Rep.one rfl ⟨_, rfl, ?_⟩)
      have := ho4'.sl.kp hk6
      rw [show (64 : Int).toNat = 64 from rfl, zeroB] at this
      exact this
    have hf6 : ∀ b, blkOf (.slice a6 (k + 1) c6) b → w.heap.size ≤ b := by
      intro b hb
      rcases hap.at_ b hb with h | h
      · exact hfr b h
      · have := hx5'.size; omega
    clear hb5 ho3'' hr5 hx5' ho5 hap ho4' hk6
    conv => whnf
    refine st TryzT_ok hb6 ?_
    conv => whnf
    intro w7 hb7 hc7 hs7
    have hx7 : Ext w w7 := hx6.then hc7 (fun b hb => by omega)
    have hs7' : Secs w7 (.slice a6 (k + 1) c6) (List.replicate (k + 1) zsec) := hs6.chg hc7 (fun b hb e => by
      obtain ⟨c, h⟩ := hs6.blk hb
      subst e
      exact absurd (h.inj hb6).1 (by decide)) (hc7.kpb hb6 (by decide))
    conv => whnf
    refine Ar.i (by omega) ?_
    conv => whnf
    exact ⟨k + 1, ⟨by omega, mkfr _ ⟨rfl, rfl, rfl, trivial⟩, a6, c6, hb7, hs7', hx7, hf6⟩, by omega⟩
  · have hm : (max 0 (min n 4096)).toNat = k := by omega
    conv => whnf
    refine ld TryzT_ok hb2 ?_
    conv => whnf
    refine cl (clone_secs ho2.sl (by omega)) ?_
    rintro v w3 ⟨a3, c3, rfl, hx3, ho3, hf3⟩
    have hb3 := hb2.ext hx3
    conv => whnf
    refine st TryzT_ok hb3 ?_
    conv => whnf
    intro w4 hb4 hc4 hs4
    have hx4 := hx2.trans hx3
    have hx4' : Ext w w4 := hx4.then hc4 (fun b hb => by omega)
    have hr3 := hr2.mono (R' := secC w3) fun c x _ h => h.kp (hx3.kp _)
    have hne : ∀ (v : Value) cs0, Own w3 v 36 1 k cs0 → ∀ b, blkOf v b → b ≠ d := fun v cs0 ho b hb e => by
      obtain ⟨c, h⟩ := ho.blk hb
      subst e
      exact absurd (h.inj hb3).1 (by decide)
    have hk4 := hc4.kpb hb3 (E' := 5) (by decide)
    have hr4 := hr3.mono (R' := secC w4) fun c x _ h => h.kp hk4
    have hS : Secs w4 (.slice a k c) (List.replicate k zsec) := ⟨cs, by rw [List.length_replicate]; exact (ho2.ext hx3).chg hc4 (hne _ _ (ho2.ext hx3)), hr4⟩
    have hN : Secs w4 (.slice a3 k c3) (List.replicate k zsec) := ⟨cs, by rw [List.length_replicate]; exact ho3.chg hc4 (hne _ _ ho3), hr4⟩
    have hap : ∀ b, blkOf (.slice a k c) b → ¬ blkOf (.slice a3 k c3) b := by
      intro b h1 h2
      obtain ⟨x, h3⟩ := ho2.blk h1
      have := hf3 b h2; have := h3.lt; omega
    conv => whnf
    refine ⟨d, rfl, ?_, hx4'⟩
    unfold dNew
    rw [hm]
    exact DiskR.of ⟨hb4, hS, hN, Wrs.nil _, hap⟩ (by omega) hfr (fun b hb => by have := hf3 b hb; have := hx2.size; omega) (fun b hb => (blkOf_none _ _ _ hb).elim)
end Go.Pst

namespace Go.Pst
open Go Go.Proofs

/-- w' is w, but for blocks from B on -/
def SW : List Nat := [124, 5]
abbrev Up (B : Nat) (w w' : World) : Prop := Mod (fun b => B ≤ b) SW w w'

/-- pointer p is a writer that has written l, in blocks from B0 on -/
def WrR (B0 : Nat) (w : World) (p : Nat) (l : List UInt8) : Prop :=
  ∃ a c, Blk w p 124 [.slice a l.length c] ∧ Own w (.slice a l.length c) 5 1 l.length (B l) ∧ B0 ≤ p ∧ ∀ b, blkOf (.slice a l.length c) b → B0 ≤ b

theorem WrR.ext {B0 : Nat} {w w' : World} {p : Nat} {l : List UInt8} (h : WrR B0 w p l) (hx : Ext w w') : WrR B0 w' p l := by
  obtain ⟨a, c, h1, h2, h3⟩ := h; exact ⟨a, c, h1.ext hx, h2.ext hx, h3⟩

theorem u8_of (x : Nat) : IntKind.u8.wrap ((x : Nat) : Int) = ((UInt8.ofNat x).toNat : Int) := by
  unfold IntKind.wrap
  simp [IntKind.bits, IntKind.signed]

/-- one append to a writer's bytes -/
theorem WrR.app {B0 : Nat} {w w1 w2 : World} {p : Nat} {l m : List UInt8} {a a' : Option Addr} {c c' n : Nat} (hb : Blk w p 124 [.slice a l.length c]) (hbo : ∀ b, blkOf (.slice a l.length c) b → B0 ≤ b) (hp : B0 ≤ p) (ho : Own w (.slice a l.length c) 5 1 l.length (B l))
    (hn : n = l.length + m.length) (hap : Apd w (.slice a l.length c) 5 1 l.length m.length (B l ++ B m) (.slice a' n c') w1) (hw : Blk w2 p 124 [.slice a' n c']) (hc : Chg (· = p) w1 w2) (hB : B0 ≤ w.heap.size) :
    WrR B0 w2 p (l ++ m) ∧ Up B0 w w2 := by
  have e : B l ++ B m = B (l ++ m) := by simp [B]
  have e2 : l.length + m.length = (l ++ m).length := by simp
  subst hn
  have hat := hap.at_
  have hch : Up B0 w w2 := Mod.trans (hap.chg.mono fun b _ h => ⟨hbo b h, _, _, (ho.blk h).choose_spec, by decide⟩) (hc.modB (hb.kp (hap.kp ho (E' := 124) (by decide))) hp (by decide))
  have hbl1 := hb.kp (hap.kp ho (E' := 124) (by decide))
  have hown := hap.own.chg hc (fun b hb2 e => by
    obtain ⟨x, hx⟩ := hap.own.blk hb2
    subst e
    exact absurd (hx.inj hbl1).1 (by decide))
  rw [e, e2] at hown
  rw [e2] at hw hat
  refine ⟨⟨a', c', hw, hown, hp, fun b hb => ?_⟩, hch⟩
  rcases hat b hb with h | h
  · exact hbo b h
  · omega

/-- (w *Writer) number -/
theorem wr_number {B0 : Nat} {w : World} {p : Nat} {l : List UInt8} (h : WrR B0 w p l) (n k : Nat) (hk : k ≤ 8) (hl : l.length ≤ 137438953472) (hB : B0 ≤ w.heap.size) :
    Does Tryz.prog 149 [.pointer (some ⟨p, 0, none⟩), .int .u64 (n : Int), .int .i64 (k : Int)] w fun _ w' => WrR B0 w' p (l ++ le n k) ∧ Up B0 w w' := by
  refine does0 TryzT_ok Tryz.func149 Tryz.call149 Tryz.ntmps149 Tryz.results149 ?_
  conv => whnf
  refine Cw.loopD TryzT_ok (ι := Nat) (fun i e w' => i ≤ k ∧ (∃ g, e = fr g [(0, .pointer (some ⟨p, 0, none⟩)), (1, .int .u64 (n : Int)), (7, .int .i64 (k : Int)), (8, .int .i64 (i : Int))]) ∧ WrR B0 w' p (l ++ le n i) ∧ Up B0 w w')
    (fun i => k - i) 0 ⟨Nat.zero_le _, mkfr _ ⟨rfl, rfl, rfl, rfl, trivial⟩, by simpa [le] using h, Mod.refl _ _ w⟩ ?_
  rintro i e w1 ⟨hik, ⟨g, rfl⟩, ⟨a, c, hb1, ho1, hp, hbo⟩, hc1⟩
  conv => whnf
  refine Cmp.dec (fun hlt => ?_) (fun hlt => ?_)
  · conv => whnf
    refine draw TryzT_ok Tryz_mixed (fun w2 hx2 _ => ?_)
    have hb2 := hb1.ext hx2
    have ho2 := ho1.ext hx2
    have hc2 : Up B0 w w2 := hc1.trans hx2.mod
    clear hb1 ho1 hc1
    conv => whnf
    refine ldL TryzT_ok hb2 ?_
    conv => whnf
    refine Ar.i (by omega) ?_
    conv => whnf
    refine shr ?_ ?_
    · omega
    conv => whnf
    refine cv TryzT_ok ?_
    conv => whnf
    refine bs (sz := 1) TryzT_ok ?_
    conv => whnf
    refine ⟨rfl, fun b3 w3 ho3 hs3 hx3 => ?_⟩
    have hb3 := hb2.ext hx3
    have ho2' := ho2.ext hx3
    have hc3 : Up B0 w w3 := hc2.trans hx3.mod
    have hsz3 := hc3.size
    clear hb2 ho2 hc2
    conv => whnf
    refine ⟨hb3.cell 0, ?_⟩
    conv => whnf
    have e1 : IntKind.u8.wrap ((n : Int).fdiv (2 ^ (min (8 * (i : Int)).toNat IntKind.u64.bits))) = ((UInt8.ofNat (n / 2 ^ (8 * i))).toNat : Int) := by
      have : (min (8 * (i : Int)).toNat IntKind.u64.bits) = 8 * i := by simp [IntKind.bits]; omega
      rw [this, ← u8_of]
      congr 1
      have h2 : ((2 : Int) ^ (8 * i)) = ((2 ^ (8 * i) : Nat) : Int) := by simp
      rw [h2, Int.fdiv_eq_ediv_of_nonneg _ (Int.natCast_nonneg _)]
      simp
    rw [e1] at ho3
    refine ap TryzT_ok ho2' ho3.sl ?_ (fun a4 c4 w4 hap => ?_)
    · simp; omega
    conv => whnf
    refine st TryzT_ok (hb3.kp (hap.kp ho2' (by decide))) ?_
    conv => whnf
    intro w5 hb5 hc5 hs5
    obtain ⟨hw5, hu5⟩ := WrR.app (m := [UInt8.ofNat (n / 2 ^ (8 * i))]) hb3 hbo hp ho2' rfl hap hb5 hc5 (by omega)
    conv => whnf
    refine Ar.i (by omega) ?_
    conv => whnf
    exact ⟨i + 1, ⟨by omega, mkfr _ ⟨rfl, rfl, rfl, rfl, trivial⟩, by rw [le, ← List.append_assoc]; exact hw5, hc3.trans hu5⟩, by omega⟩
  · have : i = k := by omega
    subst this
    conv => whnf
    exact ⟨⟨a, c, hb1, ho1, hp, hbo⟩, hc1⟩

/-- (w *Writer) Int -/
theorem wr_int {B0 : Nat} {w : World} {p : Nat} {l : List UInt8} (h : WrR B0 w p l) (n : Int) (hl : l.length ≤ 137438953472) (hB : B0 ≤ w.heap.size) :
    Does Tryz.prog 74 [.pointer (some ⟨p, 0, none⟩), .int .i64 n] w fun _ w' => WrR B0 w' p (l ++ encI n) ∧ Up B0 w w' := by
  refine does0 TryzT_ok Tryz.func74 Tryz.call74 Tryz.ntmps74 Tryz.results74 ?_
  conv => whnf
  refine cv TryzT_ok ?_
  conv => whnf
  rw [wrap_u64]
  refine cl (wr_number h (u64 n) 8 (by omega) hl hB) ?_
  rintro v w1 ⟨h1, h2⟩
  conv => whnf
  exact ⟨h1, h2⟩

theorem take_data (s : ByteArray) (n : Nat) : (s.extract 0 n).data.toList = s.data.toList.take n := by
  simp [ByteArray.data_extract]

/-- (w *Writer) Text -/
theorem wr_text {B0 : Nat} {w : World} {p : Nat} {l : List UInt8} (h : WrR B0 w p l) (s : ByteArray) (hl : l.length ≤ 68719476736) (hB : B0 ≤ w.heap.size) :
    Does Tryz.prog 75 [.pointer (some ⟨p, 0, none⟩), .string s] w fun _ w' => WrR B0 w' p (l ++ encT s) ∧ Up B0 w w' := by
  refine does0 TryzT_ok Tryz.func75 Tryz.call75 Tryz.ntmps75 Tryz.results75 ?_
  conv => whnf
  refine slT (l := 0) (h := min s.size 65535) TryzT_ok ?_ ?_ (hhi := ?_)
  · omega
  rotate_left
  · show Value.int .i64 _ = _
    congr 1; omega
  have hsz : (s.extract 0 (min s.size 65535)).size = min s.size 65535 := by simp
  have hdt : (s.extract 0 (min s.size 65535)).data.toList = s.data.toList.take 65535 := by
    rw [take_data]
    rcases Nat.le_total s.size 65535 with h | h
    · rw [Nat.min_eq_left h, List.take_of_length_le (by simp), List.take_of_length_le (by simpa using h)]
    · rw [Nat.min_eq_right h]
  generalize s.extract 0 (min s.size 65535) = t at hsz hdt
  have ht : t.size ≤ 65535 := by omega
  conv => whnf
  refine cv TryzT_ok ?_
  conv => whnf
  have e1 : IntKind.u64.wrap (t.size : Int) = ((min s.size 65535 : Nat) : Int) := by rw [wrap_u64, hsz]; congr 1; unfold u64; omega
  rw [e1]
  refine cl (wr_number h (min s.size 65535) 2 (by omega) (by omega) hB) ?_
  rintro v w1 ⟨⟨a, c, hb1, ho1, hp, hbo⟩, hu1⟩
  have hsz1 := hu1.size
  conv => whnf
  refine ld TryzT_ok hb1 ?_
  conv => whnf
  refine apS TryzT_ok ho1 ?_ (fun a4 c4 w4 hap => ?_)
  · simp; omega
  conv => whnf
  refine st TryzT_ok (hb1.kp (hap.kp ho1 (by decide))) ?_
  conv => whnf
  intro w5 hb5 hc5 hs5
  have hl2 : t.data.toList.length = t.size := by simp
  obtain ⟨hw5, hu5⟩ := WrR.app (m := t.data.toList) hb1 hbo hp ho1 (by rw [hl2]) (by rw [hl2]; exact hap) hb5 hc5 (by omega)
  conv => whnf
  refine ⟨?_, hu1.trans hu5⟩
  rw [encT, ← List.append_assoc, ← hdt]
  exact hw5

/-- (w *Writer) Flag -/
theorem wr_flag {B0 : Nat} {w : World} {p : Nat} {l : List UInt8} (h : WrR B0 w p l) (f : Bool) (hl : l.length ≤ 137438953472) (hB : B0 ≤ w.heap.size) :
    Does Tryz.prog 76 [.pointer (some ⟨p, 0, none⟩), .bool f] w fun _ w' => WrR B0 w' p (l ++ encF f) ∧ Up B0 w w' := by
  obtain ⟨a, c, hb1, ho1, hp, hbo⟩ := h
  cases f
  all_goals
    refine does0 TryzT_ok Tryz.func76 Tryz.call76 Tryz.ntmps76 Tryz.results76 ?_
    conv => whnf
    refine ld TryzT_ok hb1 ?_
    conv => whnf
    refine bs (sz := 1) TryzT_ok ?_
    conv => whnf
    refine ⟨rfl, fun b3 w3 ho3 hs3 hx3 => ?_⟩
    have hb3 := hb1.ext hx3
    have ho1' := ho1.ext hx3
    have hsz3 := hx3.size
    conv => whnf
    refine ap TryzT_ok ho1' ho3.sl ?_ (fun a4 c4 w4 hap => ?_)
    · omega
    conv => whnf
    refine st TryzT_ok (hb3.kp (hap.kp ho1' (by decide))) ?_
    conv => whnf
    intro w5 hb5 hc5 hs5
  · obtain ⟨hw5, hu5⟩ := WrR.app (m := [0]) hb3 hbo hp ho1' rfl hap hb5 hc5 (by omega)
    conv => whnf
    exact ⟨hw5, hx3.mod.trans hu5⟩
  · obtain ⟨hw5, hu5⟩ := WrR.app (m := [1]) hb3 hbo hp ho1' rfl hap hb5 hc5 (by omega)
    conv => whnf
    exact ⟨hw5, hx3.mod.trans hu5⟩

/-- v is l as bytes of one's own, in blocks from B on -/
def Byt (B0 : Nat) (w : World) (v : Value) (l : List UInt8) : Prop := ∃ a c, v = .slice a l.length c ∧ Own w (.slice a l.length c) 5 1 l.length (B l) ∧ ∀ b, blkOf (.slice a l.length c) b → B0 ≤ b
theorem Byt.sl {B0 : Nat} {w : World} {v : Value} {l : List UInt8} (h : Byt B0 w v l) : Sl w v 5 1 l.length (B l) := by
  obtain ⟨a, c, rfl, h, _⟩ := h; exact h.sl

/-- (w *Writer) Bytes -/
theorem wr_bytes {B0 : Nat} {w : World} {p : Nat} {l : List UInt8} (h : WrR B0 w p l) (hl : l.length ≤ 274877906944) :
    Does Tryz.prog 78 [.pointer (some ⟨p, 0, none⟩)] w fun v w' => Byt w.heap.size w' v l ∧ Ext w w' := by
  obtain ⟨a, c, hb1, ho1, hp, hbo⟩ := h
  refine does1 TryzT_ok Tryz.func78 Tryz.call78 Tryz.ntmps78 Tryz.results78 ?_
  conv => whnf
  refine ld TryzT_ok hb1 ?_
  conv => whnf
  refine cl (clone_bytes ho1.sl hl) ?_
  rintro v w1 ⟨a1, c1, rfl, hx1, ho2, hf⟩
  conv => whnf
  exact ⟨⟨a1, c1, rfl, ho2, hf⟩, hx1⟩

/-- &Writer{} -/
theorem wr_new {w w1 : World} {b : Nat} (hb : Blk w1 b 124 [.slice none 0 0]) (hs : w.heap.size = b) : WrR w.heap.size w1 b [] :=
  ⟨none, 0, hb, Own.nil _ _ _, by omega, fun b hb => (blkOf_none _ _ _ hb).elim⟩

/-- pointer p is a reader that has r left -/
def RdR (w : World) (p : Nat) (r : Rd) : Prop :=
  match r with
  | none => Blk w p 204 [.slice none 0 0, .bool true]
  | some l => ∃ a c, Blk w p 204 [.slice a l.length c, .bool false] ∧ Sl w (.slice a l.length c) 5 1 l.length (B l)
theorem RdR.ext {w w' : World} {p : Nat} {r : Rd} (h : RdR w p r) (hx : Ext w w') : RdR w' p r := by
  cases r with
  | none => exact Blk.ext h hx
  | some l => obtain ⟨a, c, h1, h2⟩ := h; exact ⟨a, c, h1.ext hx, h2.ext hx⟩
theorem RdR.blk {w : World} {p : Nat} {r : Rd} (h : RdR w p r) : ∃ cs, Blk w p 204 cs := by
  cases r with
  | none => exact ⟨_, h⟩
  | some l => obtain ⟨a, c, h1, h2⟩ := h; exact ⟨_, h1⟩

/-- NewReader -/
theorem rd_new {w : World} {v : Value} {l : List UInt8} (h : Sl w v 5 1 l.length (B l)) (hl : l.length ≤ 274877906944) :
    Does Tryz.prog 121 [v] w fun v w' => ∃ p, v = .pointer (some ⟨p, 0, none⟩) ∧ w.heap.size ≤ p ∧ RdR w' p (some l) ∧ Ext w w' := by
  obtain ⟨a, c, rfl⟩ := h.isSlice
  refine does1 TryzT_ok Tryz.func121 Tryz.call121 Tryz.ntmps121 Tryz.results121 ?_
  conv => whnf
  refine cl (clone_bytes h hl) ?_
  rintro v w1 ⟨a1, c1, rfl, hx1, ho2, hf⟩
  conv => whnf
  refine bx ?_
  conv => whnf
  intro b w2 hb2 hs2 hx2 hz2
  conv => whnf
  have := hx1.size
  exact ⟨b, rfl, by omega, ⟨a1, c1, hb2, ho2.sl.ext hx2⟩, hx1.trans hx2⟩

/-- (r *Reader) fail -/
theorem rd_fail {w : World} {p : Nat} {x y : Value} (hb : Blk w p 204 [x, y]) :
    Does Tryz.prog 202 [.pointer (some ⟨p, 0, none⟩)] w fun _ w' => RdR w' p none ∧ Chg (· = p) w w' := by
  refine does0 TryzT_ok Tryz.func202 Tryz.call202 Tryz.ntmps202 Tryz.results202 ?_
  conv => whnf
  refine st TryzT_ok hb ?_
  conv => whnf
  intro w1 hb1 hc1 hs1
  conv => whnf
  refine st TryzT_ok hb1 ?_
  conv => whnf
  intro w2 hb2 hc2 hs2
  conv => whnf
  exact ⟨hb2, hc1.trans hc2⟩

def rdLeft (r : Rd) (n : Nat) : Rd := (rdTake r n).map (·.2)

/-- (r *Reader) take -/
theorem rd_take {w : World} {p : Nat} {r : Rd} (h : RdR w p r) (n : Nat) :
    Does Tryz.prog 200 [.pointer (some ⟨p, 0, none⟩), .int .i64 (n : Int)] w fun v w' => RdR w' p (rdLeft r n) ∧ Chg (· = p) w w' ∧
      match rdTake r n with
      | none => v = .tuple #[.slice none 0 0, .bool false]
      | some (a, _) => ∃ x c, v = .tuple #[.slice x a.length c, .bool true] ∧ Sl w' (.slice x a.length c) 5 1 a.length (B a) := by
  cases r with
  | none =>
    have hb : Blk w p 204 [.slice none 0 0, .bool true] := h
    refine does2 TryzT_ok Tryz.func200 Tryz.call200 Tryz.ntmps200 Tryz.results200 ?_
    conv => whnf
    refine ld TryzT_ok hb ?_
    conv => whnf
    exact ⟨h, Chg.refl w, rfl⟩
  | some l =>
    obtain ⟨a, c, hb, hs⟩ := h
    refine does2 TryzT_ok Tryz.func200 Tryz.call200 Tryz.ntmps200 Tryz.results200 ?_
    conv => whnf
    refine ld TryzT_ok hb ?_
    conv => whnf
    refine ld TryzT_ok hb ?_
    conv => whnf
    refine Cmp.dec (fun hlt => ?_) (fun hlt => ?_)
    · conv => whnf
      refine cl (rd_fail hb) ?_
      rintro v w1 ⟨h1, h2⟩
      conv => whnf
      have e : rdTake (some l) n = none := by unfold rdTake; simp only; rw [if_pos (by omega)]
      simp only [rdLeft, e]
      exact ⟨h1, h2, trivial⟩
    · have e : rdTake (some l) n = some (l.take n, l.drop n) := by unfold rdTake; simp only; rw [if_neg (by omega)]
      simp only [rdLeft, e]
      conv => whnf
      refine ld TryzT_ok hb ?_
      conv => whnf
      refine slS (l := 0) (h := n) TryzT_ok hs ?_ (fun a1 c1 hs1 => ?_)
      · omega
      conv => whnf
      refine ld TryzT_ok hb ?_
      conv => whnf
      refine slS (l := n) (h := l.length) TryzT_ok hs ?_ (fun a2 c2 hs2 => ?_)
      · omega
      conv => whnf
      refine st TryzT_ok hb ?_
      conv => whnf
      intro w1 hb1 hc1 hsz1
      have hk := hc1.kpb hb (E' := 5) (by decide)
      conv => whnf
      have l1 : n - 0 = (l.take n).length := by simp; omega
      have l2 : l.length - n = (l.drop n).length := by simp
      have e1 : ((B l).drop (0 * 1)).take ((n - 0) * 1) = B (l.take n) := by simp [B, List.map_take]
      have e2 : ((B l).drop (n * 1)).take ((l.length - n) * 1) = B (l.drop n) := by
        rw [List.take_of_length_le (by simp [B])]; simp [B, List.map_drop]
      rw [e1, l1] at hs1
      rw [e2, l2] at hs2
      rw [l2] at hb1
      refine ⟨⟨a2, c2, hb1, hs2.kp hk⟩, hc1, a1, c1, ?_, hs1.kp hk⟩
      rw [l1]
end Go.Pst

namespace Go.Pst
open Go Go.Proofs

theorem or_u64 {P : Program} (x y : Nat) (hx : x < 18446744073709551616) (hy : y < 18446744073709551616) (w : World) : (Op.intBits .or .u64 (x : Int) (y : Int)).run P w = .ok (.int .u64 ((x ||| y : Nat) : Int)) w := by
  have h : (x ||| y) < 2 ^ 64 := Nat.or_lt_two_pow hx hy
  have e : IntKind.u64.wrap ((x ||| y : Nat) : Int) = ((x ||| y : Nat) : Int) := by
    rw [wrap_u64]; congr 1; unfold u64; omega
  have e2 : (BitVec.ofNat 64 x ||| BitVec.ofNat 64 y : BitVec 64).toNat = x ||| y := by
    rw [BitVec.toNat_or, BitVec.toNat_ofNat, BitVec.toNat_ofNat, Nat.mod_eq_of_lt hx, Nat.mod_eq_of_lt hy]
  simp only [Op.intBits, Sem.run_pure, BitVec.ofInt_natCast]
  show Result.ok (Value.int .u64 (IntKind.u64.wrap ((BitVec.ofNat 64 x ||| BitVec.ofNat 64 y : BitVec 64).toNat : Int))) w = _
  rw [e2, e]

/-- (r *Reader) number -/
theorem rd_number {w : World} {p : Nat} {r : Rd} (h : RdR w p r) (k : Nat) (hk : k ≤ 8) :
    Does Tryz.prog 162 [.pointer (some ⟨p, 0, none⟩), .int .i64 (k : Int)] w fun v w' => v = .int .u64 ((rdNum r k).1 : Int) ∧ RdR w' p (rdNum r k).2 ∧ Chg (· = p) w w' := by
  refine does1 TryzT_ok Tryz.func162 Tryz.call162 Tryz.ntmps162 Tryz.results162 ?_
  conv => whnf
  refine cl (rd_take h k) ?_
  rintro v w1 ⟨h1, h2, h3⟩
  cases hr : rdTake r k with
  | none =>
    rw [hr] at h3
    simp only [rdLeft, hr, Option.map_none] at h1
    subst h3
    conv => whnf
    simp only [rdNum, hr]
    exact ⟨rfl, h1, h2⟩
  | some q =>
    obtain ⟨a, b⟩ := q
    rw [hr] at h3
    simp only [rdLeft, hr, Option.map_some] at h1
    obtain ⟨x, c, rfl, hs⟩ := h3
    have hla : a.length = k := by
      cases r with
      | none => simp [rdTake] at hr
      | some l =>
        simp only [rdTake] at hr
        split at hr
        · cases hr
        · simp only [Option.some.injEq, Prod.mk.injEq] at hr
          rw [← hr.1]; simp; omega
    conv => whnf
    refine Cw.loopD TryzT_ok (ι := Nat) (fun i e w' => w' = w1 ∧ i ≤ a.length ∧ (∃ g, e = fr g [(7, .int .u64 (unle (a.take i) : Int)), (18, .slice x a.length c), (19, .int .i64 (a.length : Int)), (20, .int .i64 (i : Int))]))
      (fun i => a.length - i) 0 ⟨rfl, Nat.zero_le _, mkfr _ ⟨rfl, rfl, rfl, rfl, trivial⟩⟩ ?_
    rintro i e w2 ⟨rfl, hi, ⟨g, rfl⟩⟩
    conv => whnf
    refine Cmp.dec (fun hlt => ?_) (fun hlt => ?_)
    · have hlt : i < a.length := by omega
      obtain ⟨b2, o2, c2, h4⟩ := hs.some (by omega)
      cases h4
      conv => whnf
      refine ia (sz := 1) TryzT_ok ?_ ?_
      · omega
      conv => whnf
      have hc := hs.elem i hlt
      have hcell : w2.cell? ⟨b2, o2 + i * 1, none⟩ = some (.int .u8 (a[i].toNat : Int)) := by
        have := hc 0 (.int .u8 (a[i].toNat : Int)) (by simp [B, hlt])
        simpa using this
      refine OpR.ldC TryzT_ok hcell ?_
      conv => whnf
      refine cv TryzT_ok ?_
      conv => whnf
      refine Ar.i (by omega) ?_
      conv => whnf
      refine shl ?_ ?_
      · omega
      conv => whnf
      have hb := a[i].toNat_lt
      have hle : 2 ^ (8 * i) * a[i].toNat < 18446744073709551616 := by
        have : 2 ^ (8 * i) ≤ 2 ^ 56 := Nat.pow_le_pow_right (by omega) (by omega)
        calc 2 ^ (8 * i) * a[i].toNat ≤ 2 ^ 56 * a[i].toNat := Nat.mul_le_mul_right _ this
          _ < 18446744073709551616 := by omega
      have e1 : IntKind.u64.wrap (IntKind.u64.wrap (a[i].toNat : Int) * 2 ^ (min (8 * (i : Int)).toNat IntKind.u64.bits)) = ((2 ^ (8 * i) * a[i].toNat : Nat) : Int) := by
        have h8 : (min (8 * (i : Int)).toNat IntKind.u64.bits) = 8 * i := by simp [IntKind.bits]; omega
        have e0 : u64 (a[i].toNat : Int) = a[i].toNat := by unfold u64; omega
        rw [h8, wrap_u64 (a[i].toNat : Int), e0]
        have e2 : ((a[i].toNat : Int) * 2 ^ (8 * i)) = ((2 ^ (8 * i) * a[i].toNat : Nat) : Int) := by
          simp [Int.mul_comm]
        rw [e2, wrap_u64]
        congr 1
        unfold u64; omega
      rw [e1]
      have e3 : unle (a.take (i + 1)) = unle (a.take i) ||| 2 ^ (8 * i) * a[i].toNat := by
        rw [List.take_succ_eq_append_getElem hlt, unle_append]
        have hl : (a.take i).length = i := by simp; omega
        have := unle_lt (a.take i)
        rw [hl] at this ⊢
        rw [Nat.or_comm, ← Nat.two_pow_add_eq_or_of_lt this, Nat.add_comm]
      refine bitop (.int .u64 (unle (a.take (i + 1)) : Int)) (fun w => ?_) ?_ (.inr (.inl rfl))
      · rw [e3]
        exact or_u64 _ _ (by have h1 := unle_lt (a.take i); have h2 : 2 ^ (8 * (a.take i).length) ≤ 2 ^ 64 := Nat.pow_le_pow_right (by omega) (by simp; omega); omega) hle w
      conv => whnf
      refine Ar.i (by omega) ?_
      conv => whnf
      exact ⟨i + 1, ⟨rfl, by omega, mkfr _ ⟨rfl, rfl, rfl, rfl, trivial⟩⟩, by omega⟩
    · have : i = a.length := by omega
      subst this
      conv => whnf
      rw [List.take_length]
      simp only [rdNum, hr]
      exact ⟨trivial, h1, h2⟩

/-- (r *Reader) Int -/
theorem rd_int {w : World} {p : Nat} {r : Rd} (h : RdR w p r) :
    Does Tryz.prog 122 [.pointer (some ⟨p, 0, none⟩)] w fun v w' => v = .int .i64 (rdInt r).1 ∧ RdR w' p (rdInt r).2 ∧ Chg (· = p) w w' := by
  refine does1 TryzT_ok Tryz.func122 Tryz.call122 Tryz.ntmps122 Tryz.results122 ?_
  conv => whnf
  refine cl (rd_number h 8 (by omega)) ?_
  rintro v w1 ⟨rfl, h1, h2⟩
  conv => whnf
  refine cv TryzT_ok ?_
  conv => whnf
  exact ⟨rfl, h1, h2⟩

/-- (r *Reader) Text -/
theorem rd_text {w : World} {p : Nat} {r : Rd} (h : RdR w p r) :
    Does Tryz.prog 159 [.pointer (some ⟨p, 0, none⟩)] w fun v w' => v = .string (rdText r).1 ∧ RdR w' p (rdText r).2 ∧ Chg (· = p) w w' := by
  have hlt : (rdNum r 2).1 < 65536 := by
    unfold rdNum
    cases hr : rdTake r 2 with
    | none => simp
    | some q =>
      obtain ⟨a, b⟩ := q
      have := unle_lt a
      have hla : a.length = 2 := by
        cases r with
        | none => simp [rdTake] at hr
        | some l =>
          simp only [rdTake] at hr
          split at hr
          · cases hr
          · simp only [Option.some.injEq, Prod.mk.injEq] at hr
            rw [← hr.1]; simp; omega
      rw [hla] at this
      exact this
  refine does1 TryzT_ok Tryz.func159 Tryz.call159 Tryz.ntmps159 Tryz.results159 ?_
  conv => whnf
  refine cl (rd_number h 2 (by omega)) ?_
  rintro v w1 ⟨rfl, h1, h2⟩
  conv => whnf
  refine cv TryzT_ok ?_
  conv => whnf
  have e1 : IntKind.i64.wrap ((rdNum r 2).1 : Int) = ((rdNum r 2).1 : Int) := wrap_i64 _ (by omega)
  rw [e1]
  refine cl (rd_take h1 (rdNum r 2).1) ?_
  rintro v w2 ⟨h3, h4, h5⟩
  cases hr : rdTake (rdNum r 2).2 (rdNum r 2).1 with
  | none =>
    rw [hr] at h5
    simp only [rdLeft, hr, Option.map_none] at h3
    subst h5
    conv => whnf
    simp only [rdText, hr]
    exact ⟨trivial, h3, h2.trans h4⟩
  | some q =>
    obtain ⟨a, b⟩ := q
    rw [hr] at h5
    simp only [rdLeft, hr, Option.map_some] at h3
    obtain ⟨x, c, rfl, hs⟩ := h5
    conv => whnf
    refine bts TryzT_ok hs ?_
    conv => whnf
    simp only [rdText, hr]
    exact ⟨trivial, h3, h2.trans h4⟩

/-- (r *Reader) Flag -/
theorem rd_flag {w : World} {p : Nat} {r : Rd} (h : RdR w p r) :
    Does Tryz.prog 167 [.pointer (some ⟨p, 0, none⟩)] w fun v w' => v = .bool (rdFlag r).1 ∧ RdR w' p (rdFlag r).2 ∧ Chg (· = p) w w' := by
  refine does1 TryzT_ok Tryz.func167 Tryz.call167 Tryz.ntmps167 Tryz.results167 ?_
  conv => whnf
  refine cl (rd_take h 1) ?_
  rintro v w2 ⟨h3, h4, h5⟩
  cases hr : rdTake r 1 with
  | none =>
    rw [hr] at h5
    simp only [rdLeft, hr, Option.map_none] at h3
    subst h5
    conv => whnf
    simp only [rdFlag, hr]
    exact ⟨trivial, h3, h4⟩
  | some q =>
    obtain ⟨a, b⟩ := q
    rw [hr] at h5
    simp only [rdLeft, hr, Option.map_some] at h3
    obtain ⟨x, c, rfl, hs⟩ := h5
    have hla : a.length = 1 := by
      cases r with
      | none => simp [rdTake] at hr
      | some l =>
        simp only [rdTake] at hr
        split at hr
        · cases hr
        · simp only [Option.some.injEq, Prod.mk.injEq] at hr
          rw [← hr.1]; simp; omega
    obtain ⟨y, rfl⟩ : ∃ y, a = [y] := by
      match a, hla with
      | [y], _ => exact ⟨y, rfl⟩
    obtain ⟨b2, o2, c2, h6⟩ := hs.some (by simp)
    cases h6
    have hc := hs.elem 0 (by simp)
    have hcell : w2.cell? ⟨b2, o2 + (0 : Int).toNat * 1, none⟩ = some (.int .u8 (y.toNat : Int)) := by
      have := hc 0 (.int .u8 (y.toNat : Int)) (by simp [B])
      simpa using this
    conv => whnf
    refine ia (sz := 1) TryzT_ok ?_ ?_
    · simp
    conv => whnf
    refine OpR.ldC TryzT_ok hcell ?_
    conv => whnf
    refine Cmp.dec (fun hlt => ?_) (fun hlt => ?_)
    · conv => whnf
      obtain ⟨cs, hbk⟩ := h3.blk
      obtain ⟨a3, c3, hb3, hs3⟩ := h3
      refine cl (rd_fail hb3) ?_
      rintro v w3 ⟨h7, h8⟩
      conv => whnf
      have e : rdFlag r = (false, none) := by
        unfold rdFlag; rw [hr]; exact if_pos (by show 1 < y.toNat; omega)
      rw [e]
      exact ⟨rfl, h7, h4.trans h8⟩
    · conv => whnf
      refine ia (sz := 1) TryzT_ok ?_ ?_
      · simp
      conv => whnf
      refine OpR.ldC TryzT_ok hcell ?_
      conv => whnf
      refine Cmp.keep ?_
      conv => whnf
      have e : rdFlag r = (y.toNat == 1, some b) := by
        unfold rdFlag; rw [hr]; exact if_neg (by show ¬ 1 < y.toNat; omega)
      rw [e]
      refine ⟨?_, h3, h4⟩
      congr 1
      rw [Bool.eq_iff_iff]; simp; omega

/-- (r *Reader) Failed -/
theorem rd_failed {w : World} {p : Nat} {r : Rd} (h : RdR w p r) :
    Does Tryz.prog 128 [.pointer (some ⟨p, 0, none⟩)] w fun v w' => v = .bool r.isNone ∧ w' = w := by
  refine does1 TryzT_ok Tryz.func128 Tryz.call128 Tryz.ntmps128 Tryz.results128 ?_
  cases r with
  | none =>
    have hb : Blk w p 204 [.slice none 0 0, .bool true] := h
    conv => whnf
    refine ld TryzT_ok hb ?_
    conv => whnf
    exact ⟨rfl, rfl⟩
  | some l =>
    obtain ⟨a3, c3, hb3, hs3⟩ := h
    conv => whnf
    refine ld TryzT_ok hb3 ?_
    conv => whnf
    exact ⟨rfl, rfl⟩

/-- (r *Reader) Left -/
theorem rd_left {w : World} {p : Nat} {r : Rd} (h : RdR w p r) :
    Does Tryz.prog 165 [.pointer (some ⟨p, 0, none⟩)] w fun v w' => v = .int .i64 ((r.getD []).length : Int) ∧ w' = w := by
  refine does1 TryzT_ok Tryz.func165 Tryz.call165 Tryz.ntmps165 Tryz.results165 ?_
  cases r with
  | none =>
    have hb : Blk w p 204 [.slice none 0 0, .bool true] := h
    conv => whnf
    refine ld TryzT_ok hb ?_
    conv => whnf
    exact ⟨rfl, rfl⟩
  | some l =>
    obtain ⟨a3, c3, hb3, hs3⟩ := h
    conv => whnf
    refine ld TryzT_ok hb3 ?_
    conv => whnf
    exact ⟨rfl, rfl⟩

def rdDone (r : Rd) : Bool := r == some []
/-- (r *Reader) Done -/
theorem rd_done {w : World} {p : Nat} {r : Rd} (h : RdR w p r) :
    Does Tryz.prog 126 [.pointer (some ⟨p, 0, none⟩)] w fun v w' => v = .bool (rdDone r) ∧ w' = w := by
  refine does1 TryzT_ok Tryz.func126 Tryz.call126 Tryz.ntmps126 Tryz.results126 ?_
  conv => whnf
  refine cl (rd_failed h) ?_
  rintro v w1 ⟨rfl, rfl⟩
  cases r with
  | none =>
    conv => whnf
    exact ⟨rfl, rfl⟩
  | some l =>
    conv => whnf
    refine cl (rd_left h) ?_
    rintro v w1 ⟨rfl, rfl⟩
    conv => whnf
    refine Cmp.keep ?_
    conv => whnf
    refine ⟨?_, rfl⟩
    congr 1
    cases l with
    | nil => rfl
    | cons x l => simp [rdDone]; omega
end Go.Pst

namespace Go.Pst
open Go Go.Proofs

/-- a disk as New makes it and Write keeps it; no more than k writes -/
structure DOk (k : Nat) (D : DSt) : Prop where
  len : D.now.length ≤ 4096
  same : D.sure.length = D.now.length
  now : ∀ s ∈ D.now, s.length = 64
  sure : ∀ s ∈ D.sure, s.length = 64
  uns : ∀ x ∈ D.unsure, x.1 < D.now.length ∧ x.2.length = 64
  left : -1 ≤ D.left ∧ D.left < 9223372036854775808
  wrt : 0 ≤ D.written ∧ D.written ≤ k
  cnt : D.unsure.length ≤ k

theorem DOk.mono {k k' : Nat} {D : DSt} (h : DOk k D) (hk : k ≤ k') : DOk k' D := ⟨h.len, h.same, h.now, h.sure, h.uns, h.left, ⟨h.wrt.1, by have := h.wrt.2; omega⟩, by have := h.cnt; omega⟩

theorem DOk.write {k : Nat} {D : DSt} (h : DOk k D) (i : Int) (b : Sec) : DOk (k + 1) (dWrite D i b) := by
  unfold dWrite
  split
  · rename_i ho
    simp only [dWriteOk, Bool.and_eq_true, decide_eq_true_eq] at ho
    obtain ⟨⟨h0, h1, h2⟩, _⟩ := ho
    refine ⟨by simpa using h.len, by simpa using h.same, fun s hs => ?_, h.sure, fun x hx => ?_, ?_, ⟨by have := h.wrt.1; simp only; omega, by have := h.wrt.2; simp only; omega⟩, by have := h.cnt; simp; omega⟩
    · rcases List.mem_or_eq_of_mem_set hs with h3 | h3
      · exact h.now s h3
      · rw [h3]; exact h2
    · simp only [List.mem_append, List.mem_singleton] at hx
      simp only [List.length_set]
      rcases hx with hx | rfl
      · exact h.uns x hx
      · exact ⟨by simp only; omega, h2⟩
    · have := h.left
      simp only
      split <;> omega
  · exact h.mono (by omega)

theorem DOk.new (n : Int) : DOk 0 (dNew n) := by
  refine ⟨?_, rfl, ?_, ?_, ?_, ?_, ?_, ?_⟩ <;> simp [dNew, zsec]
  · omega

/-- the sectors that so many bytes take -/
def nd (n : Nat) : Nat := (n + 63) / 64
def needI (n : Int) : Int := if n < 1 then 0 else (n - 1) / 64 + 1
theorem needI_nat (n : Nat) : needI n = nd n := by unfold needI nd; split <;> omega

/-- Need -/
theorem sp_need (w : World) (n : Int) (hn : -9223372036854775808 ≤ n ∧ n < 9223372036854775808) :
    Does Tryz.prog 148 [.int .i64 n] w fun v w' => v = .int .i64 (needI n) ∧ w' = w := by
  refine does1 TryzT_ok Tryz.func148 Tryz.call148 Tryz.ntmps148 Tryz.results148 ?_
  conv => whnf
  refine Cmp.dec (fun h => ?_) (fun h => ?_)
  · conv => whnf
    unfold needI; rw [if_pos h]
    exact ⟨rfl, rfl⟩
  · conv => whnf
    refine Ar.i (by omega) ?_
    conv => whnf
    refine quo ?_ ?_
    · omega
    conv => whnf
    refine Ar.i (by omega) ?_
    conv => whnf
    unfold needI; rw [if_neg h]
    exact ⟨rfl, rfl⟩

def spIs (D : DSt) (a n : Int) : Bool := decide (0 ≤ a ∧ a ≤ D.now.length ∧ n ≤ D.now.length - a)

/-- Is -/
theorem sp_is {B0 : Nat → Prop} {w : World} {d : Nat} {D : DSt} (h : DiskR B0 w d D) (hl : D.now.length ≤ 4096) (a n : Int) :
    Does Tryz.prog 119 [.pointer (some ⟨d, 0, none⟩), .int .i64 a, .int .i64 n] w fun v w' => v = .bool (spIs D a n) ∧ w' = w := by
  have hlen := disk_len h
  refine does1 TryzT_ok Tryz.func119 Tryz.call119 Tryz.ntmps119 Tryz.results119 ?_
  conv => whnf
  refine Cmp.dec (fun h0 => ?_) (fun h0 => ?_)
  · conv => whnf
    refine cl hlen ?_
    rintro v w1 ⟨rfl, rfl⟩
    conv => whnf
    refine Cmp.dec (fun h1 => ?_) (fun h1 => ?_)
    · conv => whnf
      refine cl hlen ?_
      rintro v w1 ⟨rfl, rfl⟩
      conv => whnf
      refine Ar.i (by omega) ?_
      conv => whnf
      refine Cmp.keep ?_
      conv => whnf
      refine ⟨?_, rfl⟩
      congr 1; unfold spIs; rw [decide_eq_decide]; omega
    · conv => whnf
      refine ⟨?_, rfl⟩
      congr 1; unfold spIs; rw [eq_comm, decide_eq_false_iff_not]; omega
  · conv => whnf
    refine ⟨?_, rfl⟩
    congr 1; unfold spIs; rw [eq_comm, decide_eq_false_iff_not]; omega

/-- filled up to whole sectors -/
def fill (l : List UInt8) : List UInt8 := l ++ List.replicate (nd l.length * 64 - l.length) 0
theorem fill_len (l : List UInt8) : (fill l).length = nd l.length * 64 := by simp [fill, nd]; omega

/-- Fill -/
theorem sp_fill {w : World} {v : Value} {l : List UInt8} (hv : Sl w v 5 1 l.length (B l)) (hl : l.length ≤ 137438953472) :
    Does Tryz.prog 196 [v] w fun v w' => Byt w.heap.size w' v (fill l) ∧ Ext w w' := by
  obtain ⟨a, c, rfl⟩ := hv.isSlice
  refine does1 TryzT_ok Tryz.func196 Tryz.call196 Tryz.ntmps196 Tryz.results196 ?_
  conv => whnf
  refine cl (sp_need w (l.length : Int) (by omega)) ?_
  rintro v w1 ⟨rfl, rfl⟩
  rw [needI_nat]
  have hb : nd l.length * 64 < l.length + 64 := by unfold nd; omega
  conv => whnf
  refine Ar.i (by omega) ?_
  conv => whnf
  refine mk (sz := 1) (n := (nd l.length : Int) * 64) TryzT_ok ?_ (fun b w2 ho hs hx => ?_)
  · omega
  have hn : ((nd l.length : Int) * 64).toNat = nd l.length * 64 := by omega
  rw [hn, zeroB] at ho
  rw [hn]
  obtain ⟨_, rest, _, hblk, hcl⟩ := ho.opens
  have hrest : rest = [] := by
    apply List.eq_nil_of_length_eq_zero
    simp only [List.length_append, B_len, List.length_replicate] at hcl; omega
  subst hrest
  rw [List.append_nil] at hblk
  have hv2 := hv.ext hx
  conv => whnf
  refine cp (sz := 1) TryzT_ok hblk ?_ hv2 (fun w3 hb3 hc3 hs3 => ?_)
  · simp [B_len]
  conv => whnf
  have e : splice (B (List.replicate (nd l.length * 64) 0)) 0 ((B l).take (min l.length (nd l.length * 64) * 1)) = B (fill l) := by
    have h1 : min l.length (nd l.length * 64) * 1 = l.length := by unfold nd; omega
    rw [h1, List.take_of_length_le (by rw [B_len]; exact Nat.le_refl _)]
    simp only [splice, List.take_zero, List.nil_append, Nat.zero_add, B, fill, List.map_append, List.length_map]
    rw [← List.map_drop, List.drop_replicate]
  rw [e] at hb3
  refine ⟨⟨some ⟨b, 0, none⟩, nd l.length * 64, by rw [fill_len], ⟨by rw [B_len]; omega, .inr ⟨b, nd l.length * 64, [], by rw [fill_len], by rw [fill_len]; exact Nat.le_refl _, by rw [List.append_nil]; exact hb3, by rw [List.append_nil, B_len, fill_len]; omega⟩⟩, fun x hx2 => ?_⟩, hx.then hc3 (fun x h => by omega)⟩
  simp at hx2; omega

/-- sectors written one behind the other, till one fails -/
def dPuts : DSt → Int → List Sec → Bool × DSt
  | D, _, [] => (true, D)
  | D, a, s :: r => if dWriteOk D a s then dPuts (dWrite D a s) (a + 1) r else (false, D)
def chunks : Nat → List UInt8 → List Sec
  | 0, _ => []
  | n + 1, l => l.take 64 :: chunks n (l.drop 64)
def dPut (D : DSt) (a : Int) (l : List UInt8) : Bool × DSt :=
  if l.length = 0 then (true, D) else if spIs D a (nd l.length) then dPuts D a (chunks (nd l.length) (fill l)) else (false, D)

theorem DOk.puts {k : Nat} {D : DSt} (h : DOk k D) (a : Int) (l : List Sec) : DOk (k + l.length) (dPuts D a l).2 := by
  induction l generalizing D k a with
  | nil => exact h
  | cons s r ih =>
    unfold dPuts
    split
    · have := ih (h.write a s) (a + 1)
      rwa [show k + 1 + r.length = k + (s :: r).length from by simp; omega] at this
    · exact h.mono (by simp)
theorem chunks_len (n : Nat) (l : List UInt8) : (chunks n l).length = n := by induction n generalizing l with | zero => rfl | succ n ih => simp [chunks, ih]
theorem DOk.put {k : Nat} {D : DSt} (h : DOk k D) (a : Int) (l : List UInt8) : DOk (k + 4096) (dPut D a l).2 := by
  unfold dPut
  split
  · exact h.mono (by omega)
  split
  · rename_i hs
    have := h.puts a (chunks (nd l.length) (fill l))
    rw [chunks_len] at this
    have hl := h.len
    simp only [spIs, decide_eq_true_eq] at hs
    exact this.mono (by omega)
  · exact h.mono (by omega)

/-- Put -/
theorem sp_put {B0 : Nat → Prop} {K : Nat} {w : World} {d : Nat} {D : DSt} {v : Value} {l : List UInt8} (h : DiskR B0 w d D) (hD : DOk K D) (hK : K ≤ 137438953472) (hv : Sl w v 5 1 l.length (B l)) (hl : l.length ≤ 137438953472) (a : Int) (hB0 : ∀ b, w.heap.size ≤ b → B0 b) :
    Does Tryz.prog 140 [.pointer (some ⟨d, 0, none⟩), .int .i64 a, v] w fun r w' => r = .bool (dPut D a l).1 ∧ DiskR B0 w' d (dPut D a l).2 ∧ Mod B0 SD w w' := by
  have hDl := hD.len
  obtain ⟨av, cv, rfl⟩ := hv.isSlice
  refine does1 TryzT_ok Tryz.func140 Tryz.call140 Tryz.ntmps140 Tryz.results140 ?_
  conv => whnf
  refine Cmp.dec (fun h0 => ?_) (fun h0 => ?_)
  · conv => whnf
    unfold dPut; rw [if_pos (by omega)]
    exact ⟨rfl, h, Mod.refl _ _ _⟩
  conv => whnf
  refine cl (sp_need w (l.length : Int) (by omega)) ?_
  rintro v w1 ⟨rfl, rfl⟩
  rw [needI_nat]
  conv => whnf
  refine cl (sp_is h hDl a (nd l.length)) ?_
  rintro v w1 ⟨rfl, rfl⟩
  cases hs : spIs D a (nd l.length) with
  | false =>
    conv => whnf
    unfold dPut; rw [if_neg (by omega), hs]
    exact ⟨rfl, h, Mod.refl _ _ _⟩
  | true =>
    have hs' := hs
    simp only [spIs, decide_eq_true_eq] at hs'
    conv => whnf
    refine cl (sp_fill hv hl) ?_
    rintro v w2 ⟨⟨a2, c2, rfl, ho2, hf2⟩, hx2⟩
    conv => whnf
    have e0 : dPut D a l = dPuts D a (chunks (nd l.length) (fill l)) := by unfold dPut; rw [if_neg (by omega), hs]; rfl
    rw [e0]
    refine Cw.loopD TryzT_ok (ι := Nat) (fun m e w' => ∃ D1 l1 j, l1.length = m * 64 ∧ j + m = nd l.length ∧ DOk (K + j) D1 ∧ dPuts D a (chunks (nd l.length) (fill l)) = dPuts D1 (a + (j : Nat)) (chunks m l1) ∧
      (∃ y c, (∃ g, e = fr g [(0, .pointer (some ⟨d, 0, none⟩)), (1, .int .i64 (a + (j : Nat))), (7, .slice y l1.length c)]) ∧ Sl w' (.slice y l1.length c) 5 1 l1.length (B l1)) ∧ DiskR B0 w' d D1 ∧ Mod B0 SD w1 w')
      (fun x => x) (nd l.length) ⟨D, fill l, 0, fill_len l, by simp, hD, by simp, ⟨a2, c2, mkfr _ ⟨rfl, by simp; rfl, rfl, trivial⟩, ho2.sl⟩, h.ext hx2, hx2.mod⟩ ?_
    rintro m e w3 ⟨D1, l1, j, hm, hj, hD1, he, ⟨y, c, ⟨g, rfl⟩, hsl⟩, hd3, hm3⟩
    conv => whnf
    refine Cmp.dec (fun hp => ?_) (fun hp => ?_)
    · obtain ⟨m, rfl⟩ : ∃ m', m = m' + 1 := ⟨m - 1, by omega⟩
      have hl1 : (l1.take 64).length = 64 := by simp; omega
      conv => whnf
      refine slN TryzT_ok 0 64 (l1.take 64).length (B (l1.take 64)) hsl ?_ ?_ (fun a4 c4 hs4 => ?_)
      · omega
      · simp [B, List.map_take]
      conv => whnf
      refine cl (disk_write hd3 hs4 hD1.left.2 ⟨by have := hD1.wrt; omega, by have := hD1.wrt; omega⟩ (by have := hD1.cnt; omega) (fun b hb => hB0 b (by have := hm3.size; omega)) (a + j)) ?_
      rintro v w4 ⟨rfl, hd4, hm4⟩
      have e6 : dPuts D1 (a + j) (chunks (m + 1) l1) = if dWriteOk D1 (a + j) (l1.take 64) then dPuts (dWrite D1 (a + j) (l1.take 64)) (a + j + 1) (chunks m (l1.drop 64)) else (false, D1) := rfl
      rw [he, e6]
      cases hok : dWriteOk D1 (a + j) (l1.take 64) with
      | false =>
        have e5 : dWrite D1 (a + j) (l1.take 64) = D1 := by unfold dWrite; rw [hok]; rfl
        rw [e5] at hd4
        conv => whnf
        exact ⟨rfl, hd4, hm3.trans hm4⟩
      | true =>
        have hsl4 := hsl.kp (hm4.kp (by decide))
        conv => whnf
        refine Ar.i (by omega) ?_
        conv => whnf
        refine slN TryzT_ok 64 l1.length (l1.drop 64).length (B (l1.drop 64)) hsl4 ?_ ?_ (fun a5 c5 hs5 => ?_)
        · simp; omega
        · rw [List.take_of_length_le (by simp [B])]; simp [B, List.map_drop]
        conv => whnf
        refine ⟨m, ⟨dWrite D1 (a + j) (l1.take 64), l1.drop 64, j + 1, by simp; omega, by omega, hD1.write _ _, ?_, ⟨a5, c5, mkfr _ ⟨rfl, by show Value.int _ _ = _; congr 1; omega, rfl, trivial⟩, hs5⟩, hd4, hm3.trans hm4⟩, by omega⟩
        rw [show a + ((j + 1 : Nat) : Int) = a + j + 1 from by omega]; rfl
    · have : m = 0 := by omega
      subst this
      conv => whnf
      rw [he]
      exact ⟨rfl, hd3, hm3⟩

/-- so many bytes from a sector on -/
def dGet (D : DSt) (a n : Int) : List UInt8 :=
  let m := max 0 (min n 262144)
  if spIs D a (needI m) then (((D.now.drop a.toNat).take (needI m).toNat).flatten).take m.toNat else []

theorem flat_len {L : List Sec} (h : ∀ s ∈ L, s.length = 64) : L.flatten.length = 64 * L.length := by
  induction L with
  | nil => rfl
  | cons s L ih =>
    rw [List.flatten_cons, List.length_append, h s List.mem_cons_self, ih fun s hs => h s (List.mem_cons_of_mem _ hs), List.length_cons]; omega

/-- Get -/
theorem sp_get {B0 : Nat → Prop} {w : World} {d : Nat} {D : DSt} (h : DiskR B0 w d D) (hD : D.now.length ≤ 4096) (hD2 : ∀ s ∈ D.now, s.length = 64) (a n : Int) :
    Does Tryz.prog 161 [.pointer (some ⟨d, 0, none⟩), .int .i64 a, .int .i64 n] w fun v w' => ∃ x c, v = .slice x (dGet D a n).length c ∧ Sl w' (.slice x (dGet D a n).length c) 5 1 (dGet D a n).length (B (dGet D a n)) ∧ Ext w w' := by
  refine does1 TryzT_ok Tryz.func161 Tryz.call161 Tryz.ntmps161 Tryz.results161 ?_
  conv => whnf
  refine cl (sp_need w (max 0 (min n 262144)) (by omega)) ?_
  rintro v w1 ⟨rfl, rfl⟩
  conv => whnf
  refine cl (sp_is h hD a (needI (max 0 (min n 262144)))) ?_
  rintro v w1 ⟨rfl, rfl⟩
  cases hs : spIs D a (needI (max 0 (min n 262144))) with
  | false =>
    conv => whnf
    have e : dGet D a n = [] := by unfold dGet; simp only; rw [hs]; rfl
    rw [e]
    exact ⟨none, 0, rfl, Sl.nil _ _ _ _, Chg.refl _⟩
  | true =>
    have hs' := hs
    simp only [spIs, decide_eq_true_eq] at hs'
    have hnd : 0 ≤ needI (max 0 (min n 262144)) ∧ max 0 (min n 262144) ≤ needI (max 0 (min n 262144)) * 64 := by unfold needI; split <;> omega
    conv => whnf
    refine cl (sp_need w1 (max 0 (min n 262144)) (by omega)) ?_
    rintro v w2 ⟨rfl, rfl⟩
    conv => whnf
    refine Cw.loopD TryzT_ok (ι := Nat) (fun k e w' => (k : Int) ≤ needI (max 0 (min n 262144)) ∧ ∃ x c, (∃ g, e = fr g [(0, .pointer (some ⟨d, 0, none⟩)), (1, .int .i64 a), (2, .int .i64 (max 0 (min n 262144))), (7, .slice x (k * 64) c), (19, .int .i64 (needI (max 0 (min n 262144)))), (20, .int .i64 (k : Int))]) ∧
        Own w' (.slice x (k * 64) c) 5 1 (k * 64) (B ((D.now.drop a.toNat).take k).flatten) ∧ (∀ b, blkOf (.slice x (k * 64) c) b → w2.heap.size ≤ b) ∧ Ext w2 w')
      (fun k => (needI (max 0 (min n 262144))).toNat - k) 0 ⟨hnd.1, none, 0, mkfr _ ⟨rfl, rfl, rfl, by rw [Nat.zero_mul]; rfl, rfl, rfl, trivial⟩, ?_, fun b hb => (blkOf_none _ _ _ hb).elim, Chg.refl _⟩ ?_
    · rw [Nat.zero_mul]; exact Own.nil _ _ _
    rintro k e w3 ⟨hk, x, c, ⟨g, rfl⟩, ho3, hf3, hx3⟩
    have hL : ∀ k : Nat, (k : Int) ≤ needI (max 0 (min n 262144)) → ((D.now.drop a.toNat).take k).flatten.length = 64 * k := by
      intro k hk
      rw [flat_len fun s hs => hD2 s (List.mem_of_mem_drop (List.mem_of_mem_take hs)), List.length_take, List.length_drop]
      omega
    conv => whnf
    refine Cmp.dec (fun hlt => ?_) (fun hlt => ?_)
    · conv => whnf
      refine Ar.i (by omega) ?_
      conv => whnf
      refine cl (disk_read (h.ext hx3) (fun s hs => by rw [hD2 s hs]; omega) (a + k)) ?_
      rintro v w4 ⟨y, c4, rfl, hx4, ho4, hf4⟩
      have ho3' := ho3.ext hx4
      have hr : dRead D (a + k) = D.now[a.toNat + k]'(by omega) := by
        unfold dRead
        rw [if_pos (by omega), List.getD_eq_getElem?_getD, show (a + (k : Int)).toNat = a.toNat + k from by omega, List.getElem?_eq_getElem (by omega)]; rfl
      have hrl : (dRead D (a + k)).length = 64 := by rw [hr]; exact hD2 _ (List.getElem_mem _)
      conv => whnf
      refine ap TryzT_ok ho3' ho4.sl ?_ (fun a5 c5 w5 hap => ?_)
      · rw [hrl]; omega
      have hn : k * 64 + (dRead D (a + k)).length = (k + 1) * 64 := by rw [hrl]; omega
      have hat := hap.at_
      have hown := hap.own
      have e : B ((D.now.drop a.toNat).take k).flatten ++ B (dRead D (a + k)) = B ((D.now.drop a.toNat).take (k + 1)).flatten := by
        rw [List.take_succ_eq_append_getElem (by rw [List.length_drop]; omega), List.flatten_append]
        simp [B, hr]
      rw [hn, e] at hown
      rw [hn] at hat ⊢
      conv => whnf
      refine Ar.i (by omega) ?_
      conv => whnf
      refine ⟨k + 1, ⟨by omega, a5, c5, mkfr _ ⟨rfl, rfl, rfl, rfl, rfl, rfl, trivial⟩, hown, fun b hb => ?_, (hx3.trans hx4).then hap.chg hf3⟩, by omega⟩
      rcases hat b hb with h | h
      · exact hf3 b h
      · have := hx3.size; have := hx4.size; omega
    · have hke : (k : Int) = needI (max 0 (min n 262144)) := by omega
      conv => whnf
      have e : dGet D a n = (((D.now.drop a.toNat).take k).flatten).take (max 0 (min n 262144)).toNat := by
        unfold dGet; simp only; rw [hs, show (needI (max 0 (min n 262144))).toNat = k from by omega]; rfl
      rw [e]
      refine slN TryzT_ok 0 (max 0 (min n 262144)).toNat ((((D.now.drop a.toNat).take k).flatten).take (max 0 (min n 262144)).toNat).length (B ((((D.now.drop a.toNat).take k).flatten).take (max 0 (min n 262144)).toNat)) ho3.sl ?_ ?_ (fun a6 c6 hs6 => ?_) (hhi := ?_)
      · rw [List.length_take, hL k (by omega)]; omega
      · simp [B, List.map_take]
      rotate_left
      · show Value.int .i64 _ = _
        congr 1; omega
      conv => whnf
      exact ⟨a6, c6, rfl, hs6, hx3⟩
end Go.Pst

namespace Go.Pst
open Go Go.Proofs

theorem B_inj {l m : List UInt8} (h : B l = B m) : l = m := by
  induction l generalizing m with
  | nil => cases m with | nil => rfl | cons => cases h
  | cons x l ih =>
    cases m with
    | nil => cases h
    | cons y m =>
      simp only [B, List.map_cons, List.cons.injEq, Value.int.injEq, true_and] at h
      obtain ⟨h1, h2⟩ := h
      rw [UInt8.toNat_inj.1 (by omega : x.toNat = y.toNat), ih h2]

/-- slices.Equal -/
theorem eq_bytes {w : World} {v1 v2 : Value} {l1 l2 : List UInt8} (h1 : Sl w v1 5 1 l1.length (B l1)) (h2 : Sl w v2 5 1 l2.length (B l2)) (hl : l1.length ≤ 274877906944) :
    Does Tryz.prog 160 [v1, v2] w fun v w' => v = .bool (decide (l1 = l2)) ∧ Ext w w' := by
  obtain ⟨a1, c1, rfl⟩ := h1.isSlice
  obtain ⟨a2, c2, rfl⟩ := h2.isSlice
  refine does1 TryzT_ok Tryz.func160 Tryz.call160 Tryz.ntmps160 Tryz.results160 ?_
  conv => whnf
  refine Cmp.split (fun hne => ?_) (fun hne => ?_)
  · conv => whnf
    refine ⟨?_, Chg.refl _⟩
    congr 1; rw [eq_comm, decide_eq_false_iff_not]; rintro rfl; simp at hne
  have hll : l1.length = l2.length := by simp at hne; omega
  conv => whnf
  refine Cw.loopD TryzT_ok (ι := Nat) (fun k e w' => k ≤ l1.length ∧ (∃ g, e = fr g [(0, .slice a1 l1.length c1), (1, .slice a2 l2.length c2), (12, .int .i64 (l1.length : Int)), (13, .int .i64 (k : Int))]) ∧ l1.take k = l2.take k ∧ Ext w w')
    (fun k => l1.length - k) 0 ⟨Nat.zero_le _, mkfr _ ⟨rfl, rfl, rfl, rfl, trivial⟩, rfl, Chg.refl _⟩ ?_
  rintro k e w1 ⟨hk, ⟨g, rfl⟩, heq, hx1⟩
  conv => whnf
  refine Cmp.dec (fun hlt => ?_) (fun hlt => ?_)
  · have hlt1 : k < l1.length := by omega
    have hlt2 : k < l2.length := by omega
    have h1' := h1.ext hx1
    have h2' := h2.ext hx1
    obtain ⟨b1, o1, c1', e1⟩ := h1'.some (by omega)
    cases e1
    obtain ⟨b2, o2, c2', e2⟩ := h2'.some (by omega)
    cases e2
    conv => whnf
    refine draw TryzT_ok Tryz_mixed (fun w2 hx2 _ => ?_)
    have hg1 : w2.cell? ⟨b1, o1 + k * 1, none⟩ = some (.int .u8 (l1[k].toNat : Int)) := by
      have := (h1'.ext hx2).elem k hlt1 0 (.int .u8 (l1[k].toNat : Int)) (by simp [B, hlt1])
      simpa using this
    have hg2 : w2.cell? ⟨b2, o2 + k * 1, none⟩ = some (.int .u8 (l2[k].toNat : Int)) := by
      have := (h2'.ext hx2).elem k hlt2 0 (.int .u8 (l2[k].toNat : Int)) (by simp [B, hlt2])
      simpa using this
    conv => whnf
    refine ia (sz := 1) TryzT_ok ?_ ?_
    · omega
    conv => whnf
    refine ldLC TryzT_ok hg1 ?_
    conv => whnf
    refine ia (sz := 1) TryzT_ok ?_ ?_
    · omega
    conv => whnf
    refine ldLC TryzT_ok hg2 ?_
    conv => whnf
    refine Cmp.split (fun hd => ?_) (fun hd => ?_)
    · conv => whnf
      refine ⟨?_, hx1.trans hx2⟩
      congr 1; rw [eq_comm, decide_eq_false_iff_not]; rintro rfl; simp at hd
    · conv => whnf
      refine Ar.i (by omega) ?_
      conv => whnf
      refine ⟨k + 1, ⟨by omega, mkfr _ ⟨rfl, rfl, rfl, rfl, trivial⟩, ?_, hx1.trans hx2⟩, by omega⟩
      have hd' : l1[k].toNat = l2[k].toNat := by simp at hd; omega
      rw [List.take_succ_eq_append_getElem hlt1, List.take_succ_eq_append_getElem hlt2, heq, UInt8.toNat_inj.1 hd']
  · have : k = l1.length := by omega
    subst this
    conv => whnf
    refine ⟨?_, hx1⟩
    congr 1; rw [eq_comm, decide_eq_true_iff]
    rw [List.take_length, hll, List.take_length] at heq
    exact heq

theorem and1 {P : Program} (e : Int) (h : 0 ≤ e ∧ e < 9223372036854775808) (w : World) : (Op.intBits .and .i64 e 1).run P w = .ok (.int .i64 (e % 2)) w := by
  obtain ⟨n, rfl⟩ : ∃ n : Nat, e = n := ⟨e.toNat, by omega⟩
  have e2 : (BitVec.ofNat 64 n &&& BitVec.ofNat 64 1 : BitVec 64).toNat = n % 2 := by
    rw [BitVec.toNat_and, BitVec.toNat_ofNat, BitVec.toNat_ofNat, Nat.mod_eq_of_lt (by omega : n < 2 ^ 64)]
    exact Nat.and_one_is_mod n
  simp only [Op.intBits, Sem.run_pure, BitVec.ofInt_natCast]
  show Result.ok (Value.int .i64 (IntKind.i64.wrap ((BitVec.ofNat 64 n &&& BitVec.ofNat 64 1 : BitVec 64).toNat : Int))) w = _
  rw [e2, wrap_i64 _ (by omega)]
  congr 2

def rcut (a : Int) : Int := max 1 (min a 1000)
/-- cut -/
theorem ro_cut (w : World) (a : Int) : Does Tryz.prog 61 [.int .i64 a] w fun v w' => v = .int .i64 (rcut a) ∧ w' = w := by
  refine does1 TryzT_ok Tryz.func61 Tryz.call61 Tryz.ntmps61 Tryz.results61 ?_
  conv => whnf
  exact ⟨rfl, rfl⟩
/-- Need -/
theorem ro_need (w : World) (a : Int) : Does Tryz.prog 34 [.int .i64 a] w fun v w' => v = .int .i64 (2 + 2 * rcut a) ∧ w' = w := by
  refine does1 TryzT_ok Tryz.func34 Tryz.call34 Tryz.ntmps34 Tryz.results34 ?_
  conv => whnf
  refine cl (ro_cut w a) ?_
  rintro v w1 ⟨rfl, rfl⟩
  have : 1 ≤ rcut a ∧ rcut a ≤ 1000 := by unfold rcut; omega
  conv => whnf
  refine Ar.i (by omega) ?_
  conv => whnf
  refine Ar.i (by omega) ?_
  conv => whnf
  exact ⟨rfl, rfl⟩

def tRoot : ByteArray := ⟨#[114, 111, 111, 116]⟩
def rootB (e n : Int) : List UInt8 := fill (encT tRoot ++ encI e ++ encI n)
theorem rootB_len (e n : Int) : (rootB e n).length = 64 := by
  have h : (encT tRoot).length = 6 := rfl
  rw [rootB, fill_len]; simp [h, nd]

/-- root -/
theorem ro_root (w : World) (e n : Int) : Does Tryz.prog 143 [.int .i64 e, .int .i64 n] w fun v w' => Byt w.heap.size w' v (rootB e n) ∧ Ext w w' := by
  refine does1 TryzT_ok Tryz.func143 Tryz.call143 Tryz.ntmps143 Tryz.results143 ?_
  conv => whnf
  refine bx ?_
  conv => whnf
  intro b w1 hb1 hs1 hx1 hz1
  have h1 := wr_new hb1 hs1
  have hn1 := hx1.size
  conv => whnf
  refine cl (wr_text h1 tRoot (by simp) hn1) ?_
  rintro v w2 ⟨h2, hu2⟩
  have hx2 : Ext w w2 := hx1.then hu2 fun _ h => h.1
  conv => whnf
  refine cl (wr_int h2 e (by simp [encT_len]; omega) hx2.size) ?_
  rintro v w3 ⟨h3, hu3⟩
  have hx3 : Ext w w3 := hx2.then hu3 fun _ h => h.1
  conv => whnf
  refine cl (wr_int h3 n (by simp [encT_len]; omega) hx3.size) ?_
  rintro v w4 ⟨h4, hu4⟩
  have hx4 : Ext w w4 := hx3.then hu4 fun _ h => h.1
  rw [List.nil_append] at h4
  conv => whnf
  refine cl (wr_bytes h4 (by simp [encT_len]; omega)) ?_
  rintro v w5 ⟨h5, hx5⟩
  have hx5' := hx4.trans hx5
  obtain ⟨a5, c5, rfl, ho5, hf5⟩ := h5
  conv => whnf
  refine cl (sp_fill ho5.sl (by simp [encT_len]; omega)) ?_
  rintro v w6 ⟨⟨a6, c6, rfl, ho6, hf6⟩, hx6⟩
  conv => whnf
  exact ⟨⟨a6, c6, rfl, ho6, fun b hb => by have := hf6 b hb; have := hx5'.size; omega⟩, hx5'.trans hx6⟩

def rplace (a area e : Int) : Int := a + 2 + e % 2 * area
/-- place -/
theorem ro_place (w : World) (a area e : Int) (h : 0 ≤ e ∧ e < 9223372036854775808) (ha : -1000000 ≤ a ∧ a ≤ 1000000) (har : 0 ≤ area ∧ area ≤ 1000) :
    Does Tryz.prog 139 [.int .i64 a, .int .i64 area, .int .i64 e] w fun v w' => v = .int .i64 (rplace a area e) ∧ w' = w := by
  have h2 : 0 ≤ e % 2 ∧ e % 2 ≤ 1 := by omega
  have h3 : 0 ≤ e % 2 * area ∧ e % 2 * area ≤ 1000 := by
    rcases (by omega : e % 2 = 0 ∨ e % 2 = 1) with h | h <;> rw [h] <;> omega
  refine does1 TryzT_ok Tryz.func139 Tryz.call139 Tryz.ntmps139 Tryz.results139 ?_
  conv => whnf
  refine Ar.i (by omega) ?_
  conv => whnf
  refine bitop (.int .i64 (e % 2)) (and1 e h) ?_ (.inl rfl)
  conv => whnf
  refine Ar.i (by omega) ?_
  conv => whnf
  refine Ar.i (by omega) ?_
  conv => whnf
  exact ⟨rfl, rfl⟩

theorem i64_rng (n : Nat) : -9223372036854775808 ≤ i64 n ∧ i64 n < 9223372036854775808 := by
  unfold i64 IntKind.wrap
  simp [IntKind.bits, IntKind.signed]
  omega

theorem rdInt_rng (r : Rd) : -9223372036854775808 ≤ (rdInt r).1 ∧ (rdInt r).1 < 9223372036854775808 := by
  simp only [rdInt]; exact i64_rng _

/-- what stands in one of two roots -/
def rootOf (D : DSt) (a : Int) : Int × Int :=
  let r := (rdText (some (dRead D a))).2
  let x := rdInt r
  let y := rdInt x.2
  (x.1, y.1)
def rootOk (D : DSt) (a area which e n : Int) : Bool :=
  decide (1 ≤ e ∧ e % 2 = which ∧ 0 ≤ n ∧ n ≤ area * 64 ∧ dRead D (a + which) = rootB e n) && spIs D (rplace a area e) (needI n)
def rootRd (D : DSt) (a area which : Int) : Int × List UInt8 × Bool :=
  let x := rootOf D (a + which)
  if rootOk D a area which x.1 x.2 then (x.1, dGet D (rplace a area x.1) x.2, true) else (0, [], false)

theorem rootRd_no {D : DSt} {a area which ep n : Int} (er : rootOf D (a + which) = (ep, n)) (hn : rootOk D a area which ep n = false) : rootRd D a area which = (0, [], false) := by
  unfold rootRd
  rw [er]
  show (if rootOk D a area which ep n = true then _ else _) = _
  rw [hn]
  exact if_neg (by decide)
theorem rootRd_yes {D : DSt} {a area which ep n : Int} (er : rootOf D (a + which) = (ep, n)) (hn : rootOk D a area which ep n = true) : rootRd D a area which = (ep, dGet D (rplace a area ep) n, true) := by
  unfold rootRd
  rw [er]
  exact if_pos hn

/-- v is l as bytes -/
def Bys (w : World) (v : Value) (l : List UInt8) : Prop := ∃ a c, v = .slice a l.length c ∧ Sl w (.slice a l.length c) 5 1 l.length (B l)
theorem Bys.ext {w w' : World} {v : Value} {l : List UInt8} (h : Bys w v l) (hx : Ext w w') : Bys w' v l := by
  obtain ⟨a, c, e, h⟩ := h; exact ⟨a, c, e, h.ext hx⟩
theorem Byt.bys {B0 : Nat} {w : World} {v : Value} {l : List UInt8} (h : Byt B0 w v l) : Bys w v l := by
  obtain ⟨a, c, e, h, _⟩ := h; exact ⟨a, c, e, h.sl⟩
theorem Bys.nil (w : World) : Bys w (.slice none 0 0) [] := ⟨none, 0, rfl, Sl.nil _ _ _ _⟩
theorem Bys.sl {w : World} {v : Value} {l : List UInt8} (h : Bys w v l) : Sl w v 5 1 l.length (B l) := by
  obtain ⟨a, c, rfl, h⟩ := h; exact h

/-- read -/
theorem ro_read1 {B0 : Nat → Prop} {w : World} {d : Nat} {D : DSt} (h : DiskR B0 w d D) (hD : D.now.length ≤ 4096) (hD2 : ∀ s ∈ D.now, s.length = 64) (a area which : Int) (ha : -1000000 ≤ a ∧ a ≤ 1000000) (har : 0 ≤ area ∧ area ≤ 1000) (hw : 0 ≤ which ∧ which ≤ 1) :
    Does Tryz.prog 120 [.pointer (some ⟨d, 0, none⟩), .int .i64 a, .int .i64 area, .int .i64 which] w fun v w' => ∃ x, v = .tuple #[.int .i64 (rootRd D a area which).1, x, .bool (rootRd D a area which).2.2] ∧ Bys w' x (rootRd D a area which).2.1 ∧ Ext w w' := by
  have hb64 : (dRead D (a + which)).length ≤ 64 := by
    unfold dRead
    split
    · rw [List.getD_eq_getElem?_getD]
      rcases Nat.lt_or_ge (a + which).toNat D.now.length with h | h
      · rw [List.getElem?_eq_getElem h]; exact Nat.le_of_eq (hD2 _ (List.getElem_mem h))
      · rw [List.getElem?_eq_none h]; simp
    · simp
  refine does3 TryzT_ok Tryz.func120 Tryz.call120 Tryz.ntmps120 Tryz.results120 ?_
  conv => whnf
  refine Ar.i (by omega) ?_
  conv => whnf
  refine cl (disk_read h (fun s hs => by rw [hD2 s hs]; omega) (a + which)) ?_
  rintro v w1 ⟨x1, c1, rfl, hx1, ho1, hf1⟩
  conv => whnf
  refine cl (rd_new ho1.sl (by omega)) ?_
  rintro v w2 ⟨p, rfl, hp, hr2, hx2⟩
  have hx2' := hx1.trans hx2
  have hsz1 := hx1.size
  conv => whnf
  refine cl (rd_text hr2) ?_
  rintro v w3 ⟨rfl, hr3, hc3⟩
  have hx3 : Ext w w3 := hx2'.then hc3 fun b hb => by omega
  have hx3' : Ext w1 w3 := hx2.then hc3 fun b hb => by omega
  conv => whnf
  refine cl (rd_int hr3) ?_
  rintro v w4 ⟨rfl, hr4, hc4⟩
  have hx4 : Ext w w4 := hx3.then hc4 fun b hb => by omega
  have hx4' : Ext w1 w4 := hx3'.then hc4 fun b hb => by omega
  conv => whnf
  refine cl (rd_int hr4) ?_
  rintro v w5 ⟨rfl, hr5, hc5⟩
  have hx5 : Ext w w5 := hx4.then hc5 fun b hb => by omega
  have hx5' : Ext w1 w5 := hx4'.then hc5 fun b hb => by omega
  have er : rootOf D (a + which) = ((rdInt (rdText (some (dRead D (a + which)))).2).1, (rdInt (rdInt (rdText (some (dRead D (a + which)))).2).2).1) := rfl
  have re : -9223372036854775808 ≤ (rdInt (rdText (some (dRead D (a + which)))).2).1 ∧ (rdInt (rdText (some (dRead D (a + which)))).2).1 < 9223372036854775808 := rdInt_rng _
  have rn : -9223372036854775808 ≤ (rdInt (rdInt (rdText (some (dRead D (a + which)))).2).2).1 ∧ (rdInt (rdInt (rdText (some (dRead D (a + which)))).2).2).1 < 9223372036854775808 := rdInt_rng _
  generalize (rdInt (rdInt (rdText (some (dRead D (a + which)))).2).2).1 = n at er rn ⊢
  generalize (rdInt (rdText (some (dRead D (a + which)))).2).1 = ep at er re ⊢
  have no : ∀ w', Ext w w' → rootOk D a area which ep n = false → ∃ x, Value.tuple #[.int .i64 0, .slice none 0 0, .bool false] = .tuple #[.int .i64 (rootRd D a area which).1, x, .bool (rootRd D a area which).2.2] ∧ Bys w' x (rootRd D a area which).2.1 ∧ Ext w w' := by
    intro w' hx hn
    rw [rootRd_no er hn]
    exact ⟨_, rfl, Bys.nil _, hx⟩
  conv => whnf
  refine Cmp.dec (fun h1 => ?_) (fun h1 => ?_)
  · conv => whnf
    exact no _ hx5 (by simp [rootOk]; intros; omega)
  conv => whnf
  refine bitop (.int .i64 (ep % 2)) (and1 ep (by omega)) ?_ (.inl rfl)
  conv => whnf
  refine Cmp.split (fun h2 => ?_) (fun h2 => ?_)
  · conv => whnf
    exact no _ hx5 (by simp at h2; simp [rootOk]; intros; omega)
  have h2 : ep % 2 = which := by simpa using h2
  conv => whnf
  refine Cmp.dec (fun h3 => ?_) (fun h3 => ?_)
  · conv => whnf
    exact no _ hx5 (by simp [rootOk]; intros; omega)
  conv => whnf
  refine Ar.i (by omega) ?_
  conv => whnf
  refine Cmp.dec (fun h4 => ?_) (fun h4 => ?_)
  · conv => whnf
    exact no _ hx5 (by simp [rootOk]; intros; omega)
  conv => whnf
  refine cl (ro_root w5 ep n) ?_
  rintro v w6 ⟨h6, hx6⟩
  obtain ⟨a6, c6, rfl, ho6, hf6⟩ := h6
  have hx6' := hx5.trans hx6
  conv => whnf
  refine cl (eq_bytes (ho1.sl.ext (hx5'.trans hx6)) ho6.sl (by omega)) ?_
  rintro v w7 ⟨rfl, hx7⟩
  have hx7' := hx6'.trans hx7
  by_cases heq : dRead D (a + which) = rootB ep n
  · rw [decide_eq_true heq]
    conv => whnf
    refine cl (ro_place w7 a area ep (by omega) ha har) ?_
    rintro v w8 ⟨rfl, rfl⟩
    conv => whnf
    refine cl (sp_need w8 n rn) ?_
    rintro v w9 ⟨rfl, rfl⟩
    conv => whnf
    refine cl (sp_is (h.ext hx7') hD (rplace a area ep) (needI n)) ?_
    rintro v w8 ⟨rfl, rfl⟩
    cases hs : spIs D (rplace a area ep) (needI n) with
    | false =>
      conv => whnf
      exact no _ hx7' (by simp [rootOk, hs])
    | true =>
      conv => whnf
      refine cl (ro_place w8 a area ep (by omega) ha har) ?_
      rintro v w9 ⟨rfl, rfl⟩
      conv => whnf
      refine cl (sp_get (h.ext hx7') hD hD2 (rplace a area ep) n) ?_
      rintro v w10 ⟨x, c, rfl, hs10, hx10⟩
      conv => whnf
      rw [rootRd_yes er (by simp [rootOk, hs, heq]; omega)]
      exact ⟨_, rfl, ⟨x, c, rfl, hs10⟩, hx7'.trans hx10⟩
  · rw [decide_eq_false heq]
    conv => whnf
    exact no _ hx7' (by simp [rootOk, heq])

def rootsRd (D : DSt) (a area : Int) : Int × List UInt8 × Bool :=
  if spIs D a 0 then
    let x := rootRd D a (rcut area) 0
    let y := rootRd D a (rcut area) 1
    if y.2.2 = true ∧ x.1 < y.1 then (y.1, y.2.1, true) else x
  else (0, [], false)

/-- Read -/
theorem ro_read {B0 : Nat → Prop} {w : World} {d : Nat} {D : DSt} (h : DiskR B0 w d D) (hD : D.now.length ≤ 4096) (hD2 : ∀ s ∈ D.now, s.length = 64) (a area : Int) :
    Does Tryz.prog 62 [.pointer (some ⟨d, 0, none⟩), .int .i64 a, .int .i64 area] w fun v w' => ∃ x, v = .tuple #[.int .i64 (rootsRd D a area).1, x, .bool (rootsRd D a area).2.2] ∧ Bys w' x (rootsRd D a area).2.1 ∧ Ext w w' := by
  refine does3 TryzT_ok Tryz.func62 Tryz.call62 Tryz.ntmps62 Tryz.results62 ?_
  conv => whnf
  refine cl (sp_is h hD a 0) ?_
  rintro v w1 ⟨rfl, rfl⟩
  cases hs : spIs D a 0 with
  | false =>
    conv => whnf
    have e : rootsRd D a area = (0, [], false) := by unfold rootsRd; rw [hs]; rfl
    rw [e]
    exact ⟨_, rfl, Bys.nil _, Chg.refl _⟩
  | true =>
    have hs' := hs
    simp only [spIs, decide_eq_true_eq] at hs'
    have hc : 1 ≤ rcut area ∧ rcut area ≤ 1000 := by unfold rcut; omega
    conv => whnf
    refine cl (ro_cut w1 area) ?_
    rintro v w2 ⟨rfl, rfl⟩
    conv => whnf
    refine cl (ro_read1 h hD hD2 a (rcut area) 0 (by omega) (by omega) (by omega)) ?_
    rintro v w3 ⟨x3, rfl, hb3, hx3⟩
    obtain ⟨a3, c3, rfl, hb3⟩ := hb3
    conv => whnf
    refine cl (ro_read1 (h.ext hx3) hD hD2 a (rcut area) 1 (by omega) (by omega) (by omega)) ?_
    rintro v w4 ⟨x4, rfl, hb4, hx4⟩
    obtain ⟨a4, c4, rfl, hb4⟩ := hb4
    have hx4' := hx3.trans hx4
    have hb3' := hb3.ext hx4
    cases hy : (rootRd D a (rcut area) 1).2.2 with
    | false =>
      conv => whnf
      have e : rootsRd D a area = rootRd D a (rcut area) 0 := by unfold rootsRd; rw [hs]; simp only [if_true]; rw [if_neg (by rw [hy]; simp)]
      rw [e]
      exact ⟨_, rfl, ⟨a3, c3, rfl, hb3'⟩, hx4'⟩
    | true =>
      conv => whnf
      refine Cmp.dec (fun hlt => ?_) (fun hlt => ?_)
      · conv => whnf
        have e : rootsRd D a area = ((rootRd D a (rcut area) 1).1, (rootRd D a (rcut area) 1).2.1, true) := by unfold rootsRd; rw [hs]; simp only [if_true]; rw [if_pos ⟨hy, hlt⟩]
        rw [e]
        exact ⟨_, rfl, ⟨a4, c4, rfl, hb4⟩, hx4'⟩
      · conv => whnf
        have e : rootsRd D a area = rootRd D a (rcut area) 0 := by unfold rootsRd; rw [hs]; simp only [if_true]; rw [if_neg (fun h => hlt h.2)]
        rw [e]
        exact ⟨_, rfl, ⟨a3, c3, rfl, hb3'⟩, hx4'⟩

/-- what Write makes of a disk, and tells -/
def rootsWr (D : DSt) (a area ep : Int) (l : List UInt8) : Int × DSt :=
  if ep < 1 then (1, D)
  else if rcut area * 64 < l.length then (6, D)
  else
    let put := if spIs D a 0 then rplace a (rcut area) ep else -1
    let first := if spIs D a 0 then a + ep % 2 else -1
    let x := dPut D put l
    if x.1 = false then (12, x.2)
    else if x.2.broken then (12, x.2)
    else
      let D2 := dSync x.2
      if dWriteOk D2 first (rootB ep l.length) = false then (12, D2)
      else
        let D3 := dWrite D2 first (rootB ep l.length)
        if D3.broken then (12, D3) else (0, dSync D3)

theorem DOk.sync {k : Nat} {D : DSt} (h : DOk k D) : DOk k (dSync D) := by
  unfold dSync
  split
  · exact h
  · exact ⟨h.len, rfl, h.now, h.now, fun x hx => (nomatch hx), h.left, h.wrt, Nat.zero_le _⟩

theorem dSync_same {D : DSt} (h : D.broken = true) : dSync D = D := by unfold dSync; rw [if_pos h]
theorem dWrite_same {D : DSt} {i : Int} {b : Sec} (h : dWriteOk D i b = false) : dWrite D i b = D := by unfold dWrite; rw [h]; rfl

/-- Write -/
theorem ro_write {B0 : Nat → Prop} {K : Nat} {w : World} {d : Nat} {D : DSt} (h : DiskR B0 w d D) (hD : DOk K D) (hK : K ≤ 100000000000) (a area ep : Int) {v : Value} {l : List UInt8} (hv : Sl w v 5 1 l.length (B l)) (hl : l.length ≤ 137438953472)
    (ha : -1000000 ≤ a ∧ a ≤ 1000000) (he : ep < 9223372036854775808) (hB0 : ∀ b, w.heap.size ≤ b → B0 b) :
    Does Tryz.prog 69 [.pointer (some ⟨d, 0, none⟩), .int .i64 a, .int .i64 area, .int .i64 ep, v] w fun r w' => r = .int .i64 (rootsWr D a area ep l).1 ∧ DiskR B0 w' d (rootsWr D a area ep l).2 ∧ Mod B0 SD w w' := by
  have hc : 1 ≤ rcut area ∧ rcut area ≤ 1000 := by unfold rcut; omega
  obtain ⟨av, cv, rfl⟩ := hv.isSlice
  refine does1 TryzT_ok Tryz.func69 Tryz.call69 Tryz.ntmps69 Tryz.results69 ?_
  refine go_cut (fun e w2 => w2 = w ∧ ¬ ep < 1 ∧ ¬ rcut area * 64 < l.length ∧ ∃ g, e = fr g [(0, .pointer (some ⟨d, 0, none⟩)), (3, .int .i64 ep), (4, .slice av l.length cv), (11, .int .i64 (if spIs D a 0 then rplace a (rcut area) ep else -1)), (12, .int .i64 (if spIs D a 0 then a + ep % 2 else -1))]) 4 _ _ _ _ ?_ ?_
  · conv => whnf
    refine cl (ro_cut w area) ?_
    rintro v w1 ⟨rfl, rfl⟩
    conv => whnf
    refine Cmp.dec (fun h1 => ?_) (fun h1 => ?_)
    · conv => whnf
      unfold rootsWr; rw [if_pos h1]
      exact ⟨rfl, h, Mod.refl _ _ _⟩
    conv => whnf
    refine Ar.i (by omega) ?_
    conv => whnf
    refine Cmp.dec (fun h2 => ?_) (fun h2 => ?_)
    · conv => whnf
      unfold rootsWr; rw [if_neg h1, if_pos h2]
      exact ⟨rfl, h, Mod.refl _ _ _⟩
    conv => whnf
    refine cl (ro_place w1 a (rcut area) ep (by omega) ha (by omega)) ?_
    rintro v w2 ⟨rfl, rfl⟩
    conv => whnf
    refine bitop (.int .i64 (ep % 2)) (and1 ep (by omega)) ?_ (.inl rfl)
    conv => whnf
    refine Ar.i (by omega) ?_
    conv => whnf
    refine cl (sp_is h hD.len a 0) ?_
    rintro v w3 ⟨rfl, rfl⟩
    cases hs : spIs D a 0 with
    | false =>
      conv => whnf
      exact ⟨rfl, h1, h2, mkfr _ ⟨rfl, rfl, rfl, rfl, rfl, trivial⟩⟩
    | true =>
      conv => whnf
      exact ⟨rfl, h1, h2, mkfr _ ⟨rfl, rfl, rfl, rfl, rfl, trivial⟩⟩
  rintro e w1 ⟨rfl, h1, h2, g, rfl⟩
  have hW : rootsWr D a area ep l = (let x := dPut D (if spIs D a 0 then rplace a (rcut area) ep else -1) l
    if x.1 = false then (12, x.2)
    else if x.2.broken then (12, x.2)
    else
      let D2 := dSync x.2
      if dWriteOk D2 (if spIs D a 0 then a + ep % 2 else -1) (rootB ep l.length) = false then (12, D2)
      else
        let D3 := dWrite D2 (if spIs D a 0 then a + ep % 2 else -1) (rootB ep l.length)
        if D3.broken then (12, D3) else (0, dSync D3)) := by
    unfold rootsWr; rw [if_neg h1, if_neg h2]
  rw [hW]
  generalize (if spIs D a 0 = true then rplace a (rcut area) ep else -1) = put
  generalize (if spIs D a 0 = true then a + ep % 2 else -1) = first
  conv => whnf
  refine cl (sp_put h hD (by omega) hv hl put hB0) ?_
  rintro v w2 ⟨rfl, hd2, hm2⟩
  have hD2 := hD.put put l
  generalize dPut D put l = x at hd2 hD2 ⊢
  obtain ⟨ok, D2⟩ := x
  simp only at hd2 hD2
  cases ok with
  | false =>
    conv => whnf
    exact ⟨rfl, hd2, hm2⟩
  | true =>
    have hs2 := hm2.size
    conv => whnf
    refine cl (disk_sync hd2 (by have := hD2.len; omega) (fun b hb => hB0 b (by omega))) ?_
    rintro v w3 ⟨rfl, hd3, hm3⟩
    have hm3' := hm2.trans hm3
    have hD3 := hD2.sync
    cases hb : D2.broken with
    | true =>
      rw [dSync_same hb] at hd3
      conv => whnf
      simp only [hb]
      exact ⟨rfl, hd3, hm3'⟩
    | false =>
      have hs3 := hm3'.size
      conv => whnf
      refine cl (ro_root w3 ep (l.length : Int)) ?_
      rintro v w4 ⟨⟨a4, c4, rfl, ho4, hf4⟩, hx4⟩
      conv => whnf
      have hu := hD3.cnt
      have hwr := hD3.wrt
      refine cl (disk_write (hd3.ext hx4) ho4.sl hD3.left.2 ⟨by omega, by omega⟩ (by omega) (fun b hb => hB0 b (by have := hx4.size; omega)) first) ?_
      rintro v w5 ⟨rfl, hd5, hm5⟩
      have hm5' := (hm3'.trans hx4.mod).trans hm5
      have hD5 := hD3.write first (rootB ep l.length)
      cases hok : dWriteOk (dSync D2) first (rootB ep l.length) with
      | false =>
        rw [dWrite_same hok] at hd5
        conv => whnf
        simp only [hb, hok]
        exact ⟨rfl, hd5, hm5'⟩
      | true =>
        have hs5 := hm5'.size
        conv => whnf
        refine cl (disk_sync hd5 (by have := hD5.len; omega) (fun b hb => hB0 b (by omega))) ?_
        rintro v w6 ⟨rfl, hd6, hm6⟩
        have hm6' := hm5'.trans hm6
        cases hb2 : (dWrite (dSync D2) first (rootB ep l.length)).broken with
        | true =>
          rw [dSync_same hb2] at hd6
          conv => whnf
          simp only [hb, hok, hb2]
          exact ⟨rfl, hd6, hm6'⟩
        | false =>
          conv => whnf
          simp only [hb, hok, hb2]
          exact ⟨rfl, hd6, hm6'⟩
end Go.Pst

namespace Go.Pst
open Go Go.Proofs

/-- a log, as it is thought of, but for its records -/
structure LSt where
  at_ : Int
  en : Int
  nx : Int
  ep : Int
  failed : Bool

/-- a log's struct -/
def LogB (w : World) (p d : Nat) (L : LSt) (v : Value) : Prop :=
  Blk w p 173 [.pointer (some ⟨d, 0, none⟩), .int .i64 L.at_, .int .i64 L.en, .int .i64 L.nx, .int .i64 L.ep, v, .bool L.failed]

def tRec : ByteArray := ⟨#[114, 101, 99]⟩
def headB (ep num n : Int) : List UInt8 := fill (encT tRec ++ encI ep ++ encI num ++ encI n)
theorem headB_len (ep num n : Int) : (headB ep num n).length = 64 := by
  have h : (encT tRec).length = 5 := rfl
  rw [headB, fill_len]; simp [h, nd]

/-- head -/
theorem lg_head {w : World} {p d : Nat} {L : LSt} {v : Value} (h : LogB w p d L v) (num n : Int) :
    Does Tryz.prog 197 [.pointer (some ⟨p, 0, none⟩), .int .i64 num, .int .i64 n] w fun v w' => Byt w.heap.size w' v (headB L.ep num n) ∧ Ext w w' := by
  unfold LogB at h
  refine does1 TryzT_ok Tryz.func197 Tryz.call197 Tryz.ntmps197 Tryz.results197 ?_
  conv => whnf
  refine bx ?_
  conv => whnf
  intro b w1 hb1 hs1 hx1 hz1
  have h1 := wr_new hb1 hs1
  have hn1 := hx1.size
  conv => whnf
  refine cl (wr_text h1 tRec (by simp) hn1) ?_
  rintro v w2 ⟨h2, hu2⟩
  have hx2 : Ext w w2 := hx1.then hu2 fun _ h => h.1
  conv => whnf
  refine ld TryzT_ok (h.ext hx2) ?_
  conv => whnf
  refine cl (wr_int h2 L.ep (by simp [encT_len]; omega) hx2.size) ?_
  rintro v w3 ⟨h3, hu3⟩
  have hx3 : Ext w w3 := hx2.then hu3 fun _ h => h.1
  conv => whnf
  refine cl (wr_int h3 num (by simp [encT_len]; omega) hx3.size) ?_
  rintro v w4 ⟨h4, hu4⟩
  have hx4 : Ext w w4 := hx3.then hu4 fun _ h => h.1
  conv => whnf
  refine cl (wr_int h4 n (by simp [encT_len]; omega) hx4.size) ?_
  rintro v w5 ⟨h5, hu5⟩
  have hx5 : Ext w w5 := hx4.then hu5 fun _ h => h.1
  rw [List.nil_append] at h5
  conv => whnf
  refine cl (wr_bytes h5 (by simp [encT_len]; omega)) ?_
  rintro v w6 ⟨h6, hx6⟩
  have hx6' := hx5.trans hx6
  obtain ⟨a6, c6, rfl, ho6, hf6⟩ := h6
  conv => whnf
  refine cl (sp_fill ho6.sl (by simp [encT_len]; omega)) ?_
  rintro v w7 ⟨⟨a7, c7, rfl, ho7, hf7⟩, hx7⟩
  conv => whnf
  exact ⟨⟨a7, c7, rfl, ho7, fun b hb => by have := hf7 b hb; have := hx6'.size; omega⟩, hx6'.trans hx7⟩

def lgFits (L : LSt) (n : Int) : Bool := decide (1 ≤ L.en - L.nx ∧ needI n ≤ L.en - L.nx - 1)
/-- the places are small numbers -/
structure LOk (L : LSt) : Prop where
  en : -1000000 ≤ L.en ∧ L.en ≤ 1000000
  nx : -1000000 ≤ L.nx ∧ L.nx ≤ 1000000

/-- fits -/
theorem lg_fits {w : World} {p d : Nat} {L : LSt} {v : Value} (h : LogB w p d L v) (hL : LOk L) (n : Int) (hn : -9223372036854775808 ≤ n ∧ n < 9223372036854775808) :
    Does Tryz.prog 146 [.pointer (some ⟨p, 0, none⟩), .int .i64 n] w fun v w' => v = .bool (lgFits L n) ∧ Ext w w' := by
  unfold LogB at h
  have h1 := hL.en
  have h2 := hL.nx
  refine does1 TryzT_ok Tryz.func146 Tryz.call146 Tryz.ntmps146 Tryz.results146 ?_
  conv => whnf
  refine draw TryzT_ok Tryz_mixed (fun w1 hx1 _ => ?_)
  have hb1 := h.ext hx1
  conv => whnf
  refine ldL TryzT_ok hb1 ?_
  conv => whnf
  refine ldL TryzT_ok hb1 ?_
  conv => whnf
  refine Ar.i (by omega) ?_
  conv => whnf
  refine Cmp.dec (fun h3 => ?_) (fun h3 => ?_)
  · conv => whnf
    refine ldL TryzT_ok hb1 ?_
    conv => whnf
    refine ldL TryzT_ok hb1 ?_
    conv => whnf
    refine Ar.i (by omega) ?_
    conv => whnf
    refine Ar.i (by omega) ?_
    conv => whnf
    refine cl (sp_need w1 n hn) ?_
    rintro v w2 ⟨rfl, rfl⟩
    conv => whnf
    refine ⟨hb1.cell 3, ?_⟩
    conv => whnf
    refine ⟨hb1.cell 2, ?_⟩
    conv => whnf
    refine Cmp.keep ?_
    conv => whnf
    refine ⟨?_, hx1⟩
    congr 1; unfold lgFits; rw [decide_eq_decide]; omega
  · conv => whnf
    refine ⟨?_, hx1⟩
    congr 1; unfold lgFits; rw [eq_comm, decide_eq_false_iff_not]; omega

def lgRoom (L : LSt) : Int := max 0 (L.en - L.nx - 1) * 64
/-- Room -/
theorem lg_room {w : World} {p d : Nat} {L : LSt} {v : Value} (h : LogB w p d L v) (hL : LOk L) :
    Does Tryz.prog 72 [.pointer (some ⟨p, 0, none⟩)] w fun v w' => v = .int .i64 (lgRoom L) ∧ Ext w w' := by
  unfold LogB at h
  have h1 := hL.en
  have h2 := hL.nx
  refine does1 TryzT_ok Tryz.func72 Tryz.call72 Tryz.ntmps72 Tryz.results72 ?_
  conv => whnf
  refine draw TryzT_ok Tryz_mixed (fun w1 hx1 _ => ?_)
  have hb1 := h.ext hx1
  conv => whnf
  refine ldL TryzT_ok hb1 ?_
  conv => whnf
  refine ldL TryzT_ok hb1 ?_
  conv => whnf
  refine Ar.i (by omega) ?_
  conv => whnf
  refine Ar.i (by omega) ?_
  conv => whnf
  refine Ar.i (by omega) ?_
  conv => whnf
  exact ⟨rfl, hx1⟩

/-- the records of a log that is being opened -/
def LogR (B0 : Nat) (w : World) (p d : Nat) (L : LSt) (R : List (List UInt8)) : Prop :=
  ∃ a c, LogB w p d L (.slice a R.length c) ∧ Secs w (.slice a R.length c) R ∧ B0 ≤ p ∧ ∀ b, blkOf (.slice a R.length c) b → B0 ≤ b

theorem LogB.ext {w w' : World} {p d : Nat} {L : LSt} {v : Value} (h : LogB w p d L v) (hx : Ext w w') : LogB w' p d L v := Blk.ext h hx
theorem LogR.ext {B0 : Nat} {w w' : World} {p d : Nat} {L : LSt} {R : List (List UInt8)} (h : LogR B0 w p d L R) (hx : Ext w w') : LogR B0 w' p d L R := by
  obtain ⟨a, c, h1, h2, h3⟩ := h; exact ⟨a, c, h1.ext hx, h2.ext hx, h3⟩

/-- the size that a head tells -/
def lgSize (b : List UInt8) : Int := (rdInt (rdInt (rdInt (rdText (some b)).2).2).2).1
def lgOk (D : DSt) (L : LSt) (k : Nat) (n : Int) : Bool := decide (0 ≤ n) && lgFits L n && decide (dRead D L.nx = headB L.ep (k + 1) n)
def lgNext (D : DSt) (L : LSt) (R : List (List UInt8)) : Option (LSt × List (List UInt8)) :=
  if lgOk D L R.length (lgSize (dRead D L.nx)) then
    some ({ L with nx := L.nx + 1 + needI (lgSize (dRead D L.nx)) }, R ++ [dGet D (L.nx + 1) (lgSize (dRead D L.nx))])
  else none

theorem dRead_len {D : DSt} (hD2 : ∀ s ∈ D.now, s.length = 64) (i : Int) : (dRead D i).length ≤ 64 := by
  unfold dRead
  split
  · rw [List.getD_eq_getElem?_getD]
    rcases Nat.lt_or_ge i.toNat D.now.length with h | h
    · rw [List.getElem?_eq_getElem h]; exact Nat.le_of_eq (hD2 _ (List.getElem_mem h))
    · rw [List.getElem?_eq_none h]; simp
  · simp

/-- read -/
theorem lg_read {Bd : Nat → Prop} {w0 w : World} {p d : Nat} {D : DSt} {L : LSt} {R : List (List UInt8)} (h : DiskR Bd w0 d D) (hx : Ext w0 w) (hD : D.now.length ≤ 4096) (hD2 : ∀ s ∈ D.now, s.length = 64)
    (hL : LOk L) (hR : LogR w0.heap.size w p d L R) (hRl : R.length ≤ 10000000) :
    Does Tryz.prog 166 [.pointer (some ⟨p, 0, none⟩)] w fun v w' => Ext w0 w' ∧ match lgNext D L R with
      | none => v = .bool false ∧ LogR w0.heap.size w' p d L R
      | some (L', R') => v = .bool true ∧ LogR w0.heap.size w' p d L' R' := by
  have hb64 := dRead_len hD2 L.nx
  have h1 := hL.en
  have h2 := hL.nx
  refine does1 TryzT_ok Tryz.func166 Tryz.call166 Tryz.ntmps166 Tryz.results166 ?_
  conv => whnf
  refine draw TryzT_ok Tryz_mixed (fun w1 hx1 _ => ?_)
  have hR1 := hR.ext hx1
  have hx1' := hx.trans hx1
  clear hR hx hx1
  obtain ⟨a, c, hb1, hs1, hp, hbo⟩ := hR1
  conv => whnf
  refine ldL TryzT_ok hb1 ?_
  conv => whnf
  refine ldL TryzT_ok hb1 ?_
  conv => whnf
  refine cl (disk_read (h.ext hx1') (fun s hs => by rw [hD2 s hs]; omega) L.nx) ?_
  rintro v w2 ⟨x2, c2, rfl, hx2, ho2, hf2⟩
  have hb2 := hb1.ext hx2
  have hs2 := hs1.ext hx2
  have hx2' := hx1'.trans hx2
  clear hb1 hs1
  unfold LogB at hb2
  conv => whnf
  refine cl (rd_new ho2.sl (by omega)) ?_
  rintro v w3 ⟨q, rfl, hq, hr3, hx3⟩
  have hx3' := hx2'.trans hx3
  have hszq : w0.heap.size ≤ w2.heap.size := hx2'.size
  conv => whnf
  refine cl (rd_text hr3) ?_
  rintro v w4 ⟨rfl, hr4, hc4⟩
  have hx4 : Ext w2 w4 := hx3.then hc4 fun b hb => by omega
  conv => whnf
  refine cl (rd_int hr4) ?_
  rintro v w5 ⟨rfl, hr5, hc5⟩
  have hx5 : Ext w2 w5 := hx4.then hc5 fun b hb => by omega
  conv => whnf
  refine cl (rd_int hr5) ?_
  rintro v w6 ⟨rfl, hr6, hc6⟩
  have hx6 : Ext w2 w6 := hx5.then hc6 fun b hb => by omega
  conv => whnf
  refine cl (rd_int hr6) ?_
  rintro v w7 ⟨rfl, hr7, hc7⟩
  have hx7 : Ext w2 w7 := hx6.then hc7 fun b hb => by omega
  have hb7 := hb2.ext hx7
  have hs7 := hs2.ext hx7
  have ho7 := ho2.sl.ext hx7
  have hx7' := hx2'.trans hx7
  have hN : lgNext D L R = if lgOk D L R.length (lgSize (dRead D L.nx)) then
    some ({ L with nx := L.nx + 1 + needI (lgSize (dRead D L.nx)) }, R ++ [dGet D (L.nx + 1) (lgSize (dRead D L.nx))]) else none := rfl
  have hn := rdInt_rng (rdInt (rdInt (rdText (some (dRead D L.nx))).2).2).2
  have hsz : lgSize (dRead D L.nx) = (rdInt (rdInt (rdInt (rdText (some (dRead D L.nx))).2).2).2).1 := rfl
  rw [hsz] at hN
  clear hsz hr3 hr4 hr5 hr6 hr7 hc4 hc5 hc6 hc7 hx3 hx4 hx5 hx6
  generalize (rdInt (rdInt (rdInt (rdText (some (dRead D L.nx))).2).2).2).1 = n at hn hN ⊢
  have no : ∀ w', Ext w7 w' → lgOk D L R.length n = false → Ext w0 w' ∧ match lgNext D L R with
      | none => Value.bool false = .bool false ∧ LogR w0.heap.size w' p d L R
      | some (L', R') => Value.bool false = .bool true ∧ LogR w0.heap.size w' p d L' R' := by
    intro w' hx' hno
    rw [hN, hno]
    exact ⟨hx7'.trans hx', rfl, a, c, Blk.ext hb7 hx', hs7.ext hx', hp, hbo⟩
  conv => whnf
  refine Cmp.dec (fun h3 => ?_) (fun h3 => ?_)
  · conv => whnf
    exact no _ (Chg.refl _) (by simp [lgOk]; intros; omega)
  conv => whnf
  refine cl (lg_fits hb7 hL n hn) ?_
  rintro v w8 ⟨rfl, hx8⟩
  cases hfit : lgFits L n with
  | false =>
    conv => whnf
    exact no _ hx8 (by simp [lgOk, hfit])
  | true =>
    have hfit' := hfit
    simp only [lgFits, decide_eq_true_eq] at hfit'
    have hb8 := hb7.ext hx8
    conv => whnf
    refine ld TryzT_ok hb8 ?_
    conv => whnf
    refine Ar.i (by omega) ?_
    conv => whnf
    refine cl (lg_head hb8 ((R.length : Int) + 1) n) ?_
    rintro v w9 ⟨⟨a9, c9, rfl, ho9, hf9⟩, hx9⟩
    conv => whnf
    refine cl (eq_bytes ((ho7.ext hx8).ext hx9) ho9.sl (by omega)) ?_
    rintro v w10 ⟨rfl, hx10⟩
    have hx10' := (hx8.trans hx9).trans hx10
    by_cases heq : dRead D L.nx = headB L.ep ((R.length : Int) + 1) n
    · rw [decide_eq_true heq]
      have hb10 := hb7.ext hx10'
      have hs10 := hs7.ext hx10'
      have hx0 := hx7'.trans hx10'
      clear hb7 hs7 ho7 hb8 ho9
      have hyes : lgOk D L R.length n = true := by simp [lgOk, hfit, heq]; omega
      rw [hN, hyes]
      conv => whnf
      refine draw TryzT_ok Tryz_mixed (fun w11 hx11 _ => ?_)
      have hb11 := hb10.ext hx11
      have hs11 := hs10.ext hx11
      have hx11' := hx0.trans hx11
      clear hb10 hs10 hx0
      conv => whnf
      refine ldL TryzT_ok hb11 ?_
      conv => whnf
      refine ldL TryzT_ok hb11 ?_
      conv => whnf
      refine ldL TryzT_ok hb11 ?_
      conv => whnf
      refine Ar.i (by omega) ?_
      conv => whnf
      refine cl (sp_get (h.ext hx11') hD hD2 (L.nx + 1) n) ?_
      rintro v w12 ⟨x, cx, rfl, hs12, hx12⟩
      have hb12 := hb11.ext hx12
      have hr12 := hs11.ext hx12
      have hx12' := hx11'.trans hx12
      clear hb11 hs11
      conv => whnf
      refine ⟨hb12.cell 5, ?_⟩
      conv => whnf
      refine bs (sz := 1) TryzT_ok ?_
      conv => whnf
      refine ⟨rfl, fun b13 w13 ho13 hs13 hx13 => ?_⟩
      have hb13 := hb12.ext hx13
      have hr13 := hr12.ext hx13
      have hx13' := hx12'.trans hx13
      have hs13 := hs12.ext hx13
      clear hb12 hr12 hs12
      obtain ⟨cs, hor, hrep⟩ := hr13
      conv => whnf
      refine ⟨hb13.cell 5, ?_⟩
      conv => whnf
      refine ap TryzT_ok hor ho13.sl (by omega) (fun a14 c14 w14 hap => ?_)
      have hk14 := hap.kp hor (E' := 5) (by decide)
      have hb14 := hb13.kp (hap.kp hor (E' := 173) (by decide))
      have hsec14 : Secs w14 (.slice a14 (R.length + 1) c14) (R ++ [dGet D (L.nx + 1) n]) := by
        refine ⟨_, by simpa using hap.own, ?_⟩
        exact (hrep.mono fun c x _ h => h.kp hk14).append (Rep.one rfl ⟨_, rfl, hs13.kp hk14⟩)
      have hx14' : Ext w0 w14 := hx13'.then hap.chg hbo
      have hbo14 : ∀ b, blkOf (.slice a14 (R.length + 1) c14) b → w0.heap.size ≤ b := by
        intro b hb
        rcases hap.at_ b hb with h | h
        · exact hbo b h
        · have := hx13'.size; omega
      clear hb13 hor hrep hap ho13 hs13
      conv => whnf
      refine st TryzT_ok hb14 ?_
      conv => whnf
      intro w15 hb15 hc15 hsz15
      have hx15 : Ext w0 w15 := hx14'.then hc15 fun b hb => by omega
      have hsec15 := hsec14.chg hc15 (fun b hb e => by
        obtain ⟨cc, h⟩ := hsec14.blk hb
        subst e
        exact absurd (h.inj hb14).1 (by decide)) (hc15.kpb hb14 (by decide))
      conv => whnf
      refine draw TryzT_ok Tryz_mixed (fun w16 hx16 _ => ?_)
      have hb16 := hb15.ext hx16
      have hsec16 := hsec15.ext hx16
      have hx16' := hx15.trans hx16
      conv => whnf
      refine ldL TryzT_ok hb16 ?_
      conv => whnf
      refine cl (sp_need w16 n hn) ?_
      rintro v w17 ⟨rfl, rfl⟩
      conv => whnf
      refine ⟨hb16.cell 3, ?_⟩
      have hn0 : 0 ≤ needI n := by unfold needI; split <;> omega
      conv => whnf
      refine Ar.i (by omega) ?_
      conv => whnf
      refine Ar.i (by omega) ?_
      conv => whnf
      refine st TryzT_ok hb16 ?_
      conv => whnf
      intro w18 hb18 hc18 hsz18
      have hx18 : Ext w0 w18 := hx16'.then hc18 fun b hb => by omega
      have hsec18 := hsec16.chg hc18 (fun b hb e => by
        obtain ⟨cc, h⟩ := hsec16.blk hb
        subst e
        exact absurd (h.inj hb16).1 (by decide)) (hc18.kpb hb16 (by decide))
      conv => whnf
      rw [if_pos rfl]
      have e1 : L.nx + (1 + needI n) = L.nx + 1 + needI n := by omega
      rw [e1] at hb18
      have e2 : R.length + 1 = (R ++ [dGet D (L.nx + 1) n]).length := by simp
      rw [e2] at hb18 hsec18 hbo14
      exact ⟨hx18, rfl, a14, c14, hb18, hsec18, hp, hbo14⟩
    · rw [decide_eq_false heq]
      conv => whnf
      exact no _ hx10' (by simp [lgOk, heq])
end Go.Pst

namespace Go.Pst
open Go Go.Proofs

def lgAll (D : DSt) : Nat → LSt → List (List UInt8) → LSt × List (List UInt8)
  | 0, L, R => (L, R)
  | k + 1, L, R => if lgFits L 0 then
      match lgNext D L R with
      | some (L', R') => lgAll D k L' R'
      | none => (L, R)
    else (L, R)
def lgOpen (D : DSt) (a n ep : Int) : LSt × List (List UInt8) :=
  let en := if spIs D a 0 then a + max 0 (min n (D.now.length - a)) else a
  lgAll D (en - a).toNat ⟨a, en, a, ep, false⟩ []

theorem needI_nn (n : Int) : 0 ≤ needI n := by unfold needI; split <;> omega
theorem lgNext_ok {D : DSt} {L L' : LSt} {R R' : List (List UInt8)} (h : lgNext D L R = some (L', R')) : L'.en = L.en ∧ L.nx + 1 ≤ L'.nx ∧ L'.nx ≤ L.en ∧ R'.length = R.length + 1 ∧ L'.ep = L.ep ∧ L'.failed = L.failed ∧ L'.at_ = L.at_ := by
  unfold lgNext at h
  split at h
  · rename_i ho
    simp only [lgOk, lgFits, Bool.and_eq_true, decide_eq_true_eq] at ho
    cases h
    have := needI_nn (lgSize (dRead D L.nx))
    refine ⟨rfl, by simp only; omega, by simp only; omega, by simp, rfl, rfl, rfl⟩
  · cases h

/-- Open -/
theorem lg_open {Bd : Nat → Prop} {w0 : World} {d : Nat} {D : DSt} (h : DiskR Bd w0 d D) (hD : D.now.length ≤ 4096) (hD2 : ∀ s ∈ D.now, s.length = 64) (a n ep : Int) (ha : -900000 ≤ a ∧ a ≤ 900000) :
    Does Tryz.prog 127 [.pointer (some ⟨d, 0, none⟩), .int .i64 a, .int .i64 n, .int .i64 ep] w0 fun v w' => ∃ p, v = .pointer (some ⟨p, 0, none⟩) ∧ LogR w0.heap.size w' p d (lgOpen D a n ep).1 (lgOpen D a n ep).2 ∧ Ext w0 w' := by
  refine does1 TryzT_ok Tryz.func127 Tryz.call127 Tryz.ntmps127 Tryz.results127 ?_
  refine go_cut (fun e w1 => ∃ p, (∃ g, e = fr g [(9, .pointer (some ⟨p, 0, none⟩))]) ∧ LogR w0.heap.size w1 p d ⟨a, if spIs D a 0 then a + max 0 (min n (D.now.length - a)) else a, a, ep, false⟩ [] ∧ Ext w0 w1) 2 _ _ _ _ ?_ ?_
  · conv => whnf
    refine bx ?_
    conv => whnf
    intro p w1 hb1 hs1 hx1 hz1
    conv => whnf
    refine cl (sp_is (h.ext hx1) hD a 0) ?_
    rintro v w2 ⟨rfl, rfl⟩
    cases hs : spIs D a 0 with
    | false =>
      conv => whnf
      exact ⟨p, mkfr _ ⟨rfl, trivial⟩, ⟨none, 0, hb1, ⟨[], Own.nil _ _ _, rfl⟩, by omega, fun b hb => (blkOf_none _ _ _ hb).elim⟩, hx1⟩
    | true =>
      simp only [spIs, decide_eq_true_eq] at hs
      conv => whnf
      refine cl (disk_len (h.ext hx1)) ?_
      rintro v w3 ⟨rfl, rfl⟩
      conv => whnf
      refine Ar.i (by omega) ?_
      conv => whnf
      refine Ar.i (by omega) ?_
      conv => whnf
      refine st TryzT_ok hb1 ?_
      conv => whnf
      intro w4 hb4 hc4 hz4
      conv => whnf
      exact ⟨p, mkfr _ ⟨rfl, trivial⟩, ⟨none, 0, hb4, ⟨[], Own.nil _ _ _, rfl⟩, by omega, fun b hb => (blkOf_none _ _ _ hb).elim⟩, hx1.then hc4 fun b hb => by omega⟩
  rintro e w1 ⟨p, ⟨g, rfl⟩, hR1, hx1⟩
  have hen : a ≤ (if spIs D a 0 then a + max 0 (min n (D.now.length - a)) else a) ∧ (if spIs D a 0 then a + max 0 (min n (D.now.length - a)) else a) ≤ a + 4096 := by
    cases hs : spIs D a 0 with
    | false => simp; omega
    | true =>
      simp only [spIs, decide_eq_true_eq] at hs
      simp only [if_true]
      omega
  unfold lgOpen
  generalize (if spIs D a 0 = true then a + max 0 (min n (D.now.length - a)) else a) = en at hR1 hen ⊢
  simp only
  conv => whnf
  refine Cw.loopD TryzT_ok (ι := Nat) (fun k e w' => ∃ L R, (∃ g, e = fr g [(9, .pointer (some ⟨p, 0, none⟩))]) ∧ LogR w0.heap.size w' p d L R ∧ Ext w0 w' ∧ lgAll D (en - a).toNat ⟨a, en, a, ep, false⟩ [] = lgAll D k L R ∧ L.en - L.nx ≤ k ∧ L.en = en ∧ a ≤ L.nx ∧ L.nx ≤ en ∧ (R.length : Int) ≤ L.nx - a)
    (fun k => k) (en - a).toNat ⟨_, _, mkfr _ ⟨rfl, trivial⟩, hR1, hx1, rfl, by simp only; omega, rfl, by simp only; omega, by simp only; omega, by simp⟩ ?_
  rintro k e w2 ⟨L, R, ⟨g, rfl⟩, hR2, hx2, he, hk, hLen, hLa, hLn, hRl⟩
  have hLo : LOk L := ⟨by omega, by omega⟩
  have hR2' := hR2
  obtain ⟨ar, cr, hb2, hs2, hp, hbo⟩ := hR2'
  conv => whnf
  refine cl (lg_fits hb2 hLo 0 (by omega)) ?_
  rintro v w3 ⟨rfl, hx3⟩
  have hR3 := hR2.ext hx3
  have hx3' := hx2.trans hx3
  cases hf : lgFits L 0 with
  | false =>
    have e1 : lgAll D k L R = (L, R) := by
      cases k with
      | zero => rfl
      | succ k =>
        show (if lgFits L 0 then _ else _) = _
        rw [hf]; exact if_neg (by decide)
    rw [he, e1]
    conv => whnf
    exact ⟨p, rfl, hR3, hx3'⟩
  | true =>
    have hf' := hf
    simp only [lgFits, decide_eq_true_eq] at hf'
    obtain ⟨k, rfl⟩ : ∃ k', k = k' + 1 := ⟨k - 1, by omega⟩
    have e1 : lgAll D (k + 1) L R = match lgNext D L R with
      | some (L', R') => lgAll D k L' R'
      | none => (L, R) := by
      show (if lgFits L 0 then _ else _) = _
      rw [hf]; exact if_pos rfl
    rw [he, e1]
    conv => whnf
    refine cl (lg_read h hx3' hD hD2 hLo hR3 (by omega)) ?_
    rintro v w4 ⟨hx4, h4⟩
    cases hn : lgNext D L R with
    | none =>
      rw [hn] at h4
      obtain ⟨rfl, hR4⟩ := h4
      conv => whnf
      exact ⟨p, rfl, hR4, hx4⟩
    | some q =>
      obtain ⟨L', R'⟩ := q
      rw [hn] at h4
      obtain ⟨rfl, hR4⟩ := h4
      obtain ⟨h5, h6, h7, h8, _⟩ := lgNext_ok hn
      conv => whnf
      exact ⟨k, ⟨L', R', mkfr _ ⟨rfl, trivial⟩, hR4, hx4, rfl, by omega, by omega, by omega, by omega, by omega⟩, by omega⟩

/-- Records -/
theorem lg_records {B0 : Nat} {w : World} {p d : Nat} {L : LSt} {R : List (List UInt8)} (h : LogR B0 w p d L R) (hl : ∀ r ∈ R, r.length ≤ 274877906944) (hR : R.length ≤ 10000000) :
    Does Tryz.prog 65 [.pointer (some ⟨p, 0, none⟩)] w fun v w' => ∃ a c, v = .slice a R.length c ∧ Secs w' (.slice a R.length c) R ∧ Ext w w' := by
  obtain ⟨a, c, hb, hs, hp, hbo⟩ := h
  obtain ⟨cs, ho, hr⟩ := hs
  unfold LogB at hb
  refine does1 TryzT_ok Tryz.func65 Tryz.call65 Tryz.ntmps65 Tryz.results65 ?_
  conv => whnf
  refine ld TryzT_ok hb ?_
  conv => whnf
  refine Cw.loopD TryzT_ok (ι := Nat) (fun k e w' => k ≤ R.length ∧ ∃ x y, (∃ g, e = fr g [(3, .slice x k y), (11, .slice a R.length c), (12, .int .i64 (R.length : Int)), (13, .int .i64 (k : Int))]) ∧ Secs w' (.slice x k y) (R.take k) ∧ (∀ b, blkOf (.slice x k y) b → w.heap.size ≤ b) ∧ Ext w w')
    (fun k => R.length - k) 0 ⟨Nat.zero_le _, none, 0, mkfr _ ⟨rfl, rfl, rfl, rfl, trivial⟩, ⟨[], Own.nil _ _ _, rfl⟩, fun b hb => (blkOf_none _ _ _ hb).elim, Chg.refl _⟩ ?_
  rintro k e w1 ⟨hk, x, y, ⟨g, rfl⟩, hs1, hf1, hx1⟩
  have hkl : (R.take k).length = k := by simp; omega
  conv => whnf
  refine Cmp.dec (fun hlt => ?_) (fun hlt => ?_)
  · have hlt : k < R.length := by omega
    have ho1 := ho.sl.ext hx1
    obtain ⟨b2, o2, c2, h4⟩ := ho1.some (by omega)
    cases h4
    conv => whnf
    refine ia (sz := 1) TryzT_ok ?_ ?_
    · omega
    conv => whnf
    have hget : R[k]? = some R[k] := List.getElem?_eq_getElem hlt
    obtain ⟨⟨sv, hsv, hsl⟩, _⟩ := hr.get hget
    have hc := ho1.elem k hlt
    rw [hsv] at hc
    have hc0 := hc 0 sv rfl
    obtain ⟨a5, c5, rfl⟩ := hsl.isSlice
    refine OpR.ldC TryzT_ok hc0 ?_
    conv => whnf
    refine cl (clone_bytes (hsl.ext hx1) (hl _ (List.getElem_mem hlt))) ?_
    rintro v w2 ⟨a6, c6, rfl, hx2, ho2, hf2⟩
    have hs2 := hs1.ext hx2
    conv => whnf
    refine bs (sz := 1) TryzT_ok ?_
    conv => whnf
    refine ⟨rfl, fun b7 w7 ho7 hs7 hx7 => ?_⟩
    have hs3 := hs2.ext hx7
    have ho2' := ho2.ext hx7
    have hx3 := (hx1.trans hx2).trans hx7
    obtain ⟨cs3, ho3, hr3⟩ := hs3
    rw [hkl] at ho3
    conv => whnf
    refine ap TryzT_ok ho3 ho7.sl (by omega) (fun a8 c8 w8 hap => ?_)
    have hk8 := hap.kp ho3 (E' := 5) (by decide)
    conv => whnf
    refine Ar.i (by omega) ?_
    conv => whnf
    refine ⟨k + 1, ⟨by omega, a8, c8, mkfr _ ⟨rfl, rfl, rfl, rfl, trivial⟩, ?_, fun b hb => ?_, hx3.then hap.chg hf1⟩, by omega⟩
    · rw [List.take_succ_eq_append_getElem hlt]
      refine ⟨_, by rw [show (R.take k ++ [R[k]]).length = k + 1 from by simp; omega]; exact hap.own, (hr3.mono fun c x _ h => h.kp hk8).append (Rep.one rfl ⟨_, rfl, ho2'.sl.kp hk8⟩)⟩
    · rcases hap.at_ b hb with h | h
      · exact hf1 b h
      · have := hx3.size; omega
  · have : k = R.length := by omega
    subst this
    rw [List.take_length] at hs1
    conv => whnf
    exact ⟨x, y, rfl, hs1, hx1⟩
end Go.Pst

namespace Go.Pst
open Go Go.Proofs

/-- what put makes of a disk: the record's bytes are there, the head is not -/
def lgPut2 (D : DSt) (L : LSt) (k n : Nat) : Bool × DSt :=
  if D.broken then (false, D)
  else if dWriteOk (dSync D) L.nx (headB L.ep (k + 1) n) = false then (false, dSync D)
  else if (dWrite (dSync D) L.nx (headB L.ep (k + 1) n)).broken then (false, dWrite (dSync D) L.nx (headB L.ep (k + 1) n))
  else (true, dSync (dWrite (dSync D) L.nx (headB L.ep (k + 1) n)))
def lgPut (D : DSt) (L : LSt) (k : Nat) (l : List UInt8) : Bool × DSt :=
  let x := dPut D (L.nx + 1) l
  let bh := L.nx + 1 + nd l.length
  if x.1 = false then (false, x.2)
  else if bh < L.en then
    if dWriteOk x.2 bh zsec = false then (false, x.2) else lgPut2 (dWrite x.2 bh zsec) L k l.length
  else lgPut2 x.2 L k l.length

theorem DOk.lgPut2 {K : Nat} {D : DSt} (h : DOk K D) (L : LSt) (k n : Nat) : DOk (K + 1) (lgPut2 D L k n).2 := by
  unfold Go.Pst.lgPut2
  split
  · exact h.mono (by omega)
  split
  · exact h.sync.mono (by omega)
  split
  · exact h.sync.write _ _
  · exact (h.sync.write _ _).sync
theorem DOk.lgPut {K : Nat} {D : DSt} (h : DOk K D) (L : LSt) (k : Nat) (l : List UInt8) : DOk (K + 4098) (lgPut D L k l).2 := by
  have h1 := h.put (L.nx + 1) l
  unfold Go.Pst.lgPut
  simp only
  generalize dPut D (L.nx + 1) l = x at h1 ⊢
  by_cases hx : x.1 = false
  · rw [if_pos hx]; exact h1.mono (by omega)
  rw [if_neg hx]
  by_cases hb : L.nx + 1 + nd l.length < L.en
  · rw [if_pos hb]
    by_cases ho : dWriteOk x.2 (L.nx + 1 + nd l.length) zsec = false
    · rw [if_pos ho]; exact h1.mono (by omega)
    · rw [if_neg ho]; exact (h1.write _ _).lgPut2 _ _ _
  · rw [if_neg hb]; exact (h1.lgPut2 _ _ _).mono (by omega)

set_option maxRecDepth 8000 in
/-- put -/
theorem lg_put {B0 : Nat → Prop} {K : Nat} {w : World} {p d : Nat} {D : DSt} {L : LSt} {a : Option Addr} {k c : Nat} {v : Value} {l : List UInt8} (h : DiskR B0 w d D) (hD : DOk K D) (hK : K ≤ 100000000000) (hB0 : ∀ b, w.heap.size ≤ b → B0 b)
    (hb : LogB w p d L (.slice a k c)) (hL : LOk L) (hk : k ≤ 1000000000) (hv : Sl w v 5 1 l.length (B l)) (hl : l.length ≤ 1000000000) :
    Does Tryz.prog 147 [.pointer (some ⟨p, 0, none⟩), v] w fun r w' => r = .bool (lgPut D L k l).1 ∧ DiskR B0 w' d (lgPut D L k l).2 ∧ Mod B0 SD w w' := by
  have h1 := hL.en
  have h2 := hL.nx
  have hndl : nd l.length ≤ l.length := by unfold nd; omega
  obtain ⟨av, cv, rfl⟩ := hv.isSlice
  unfold LogB at hb
  refine does1 TryzT_ok Tryz.func147 Tryz.call147 Tryz.ntmps147 Tryz.results147 ?_
  refine go_cut (fun e w1 => ∃ D2, (∃ g, e = fr g [(0, .pointer (some ⟨p, 0, none⟩)), (1, .slice av l.length cv)]) ∧ DiskR B0 w1 d D2 ∧ DOk (K + 4097) D2 ∧ Mod B0 SD w w1 ∧ lgPut D L k l = lgPut2 D2 L k l.length) 3 _ _ _ _ ?_ ?_
  · conv => whnf
    refine draw TryzT_ok Tryz_mixed (fun w1 hx1 _ => ?_)
    have hb1 := hb.ext hx1
    conv => whnf
    refine ldL TryzT_ok hb1 ?_
    conv => whnf
    refine Ar.i (by omega) ?_
    conv => whnf
    refine cl (sp_need w1 (l.length : Int) (by omega)) ?_
    rintro v w2 ⟨rfl, rfl⟩
    rw [needI_nat]
    conv => whnf
    refine ⟨hb1.cell 3, ?_⟩
    conv => whnf
    refine Ar.i (by omega) ?_
    conv => whnf
    refine draw TryzT_ok Tryz_mixed (fun w3 hx3 _ => ?_)
    have hb3 := hb1.ext hx3
    have hx3' := hx1.trans hx3
    clear hb hb1 hx1 hx3
    conv => whnf
    refine ldL TryzT_ok hb3 ?_
    conv => whnf
    refine ldL TryzT_ok hb3 ?_
    conv => whnf
    refine Ar.i (by omega) ?_
    conv => whnf
    have hB3 : ∀ b, w3.heap.size ≤ b → B0 b := fun b hb => hB0 b (by have := hx3'.size; omega)
    refine cl (sp_put (h.ext hx3') hD (by omega) (hv.ext hx3') (by omega) (L.nx + 1) hB3) ?_
    rintro v w4 ⟨rfl, hd4, hm4⟩
    have hb4 := hb3.kp (hm4.kp (by decide))
    have hm4' : Mod B0 SD w w4 := hx3'.mod.trans hm4
    have hD4 := hD.put (L.nx + 1) l
    have hP : lgPut D L k l = (let x := dPut D (L.nx + 1) l
      let bh := L.nx + 1 + nd l.length
      if x.1 = false then (false, x.2)
      else if bh < L.en then
        if dWriteOk x.2 bh zsec = false then (false, x.2) else lgPut2 (dWrite x.2 bh zsec) L k l.length
      else lgPut2 x.2 L k l.length) := rfl
    generalize dPut D (L.nx + 1) l = x at hd4 hD4 hP ⊢
    obtain ⟨ok, D4⟩ := x
    simp only at hd4 hD4 hP
    clear hb3 hm4
    cases ok with
    | false =>
      rw [if_pos rfl] at hP
      conv => whnf
      rw [hP]
      exact ⟨rfl, hd4, hm4'⟩
    | true =>
      rw [if_neg (by decide)] at hP
      conv => whnf
      refine draw TryzT_ok Tryz_mixed (fun w5 hx5 _ => ?_)
      have hb5 := hb4.ext hx5
      have hd5 := hd4.ext hx5
      have hm5 := hm4'.trans hx5.mod
      clear hb4 hd4 hm4' hx5
      conv => whnf
      refine ldL TryzT_ok hb5 ?_
      conv => whnf
      refine Cmp.dec (fun hlt => ?_) (fun hlt => ?_)
      · rw [if_pos (by omega)] at hP
        conv => whnf
        refine ldL TryzT_ok hb5 ?_
        conv => whnf
        refine mk (sz := 1) (n := 64) TryzT_ok (by omega) (fun b6 w6 ho6 hs6 hx6 => ?_)
        have hb6 := hb5.ext hx6
        have hd6 := hd5.ext hx6
        have hm6 := hm5.trans hx6.mod
        rw [show (64 : Int).toNat = 64 from rfl, zeroB] at ho6
        conv => whnf
        refine ⟨hb6.cell 0, ?_⟩
        conv => whnf
        have hwr := hD4.wrt
        have hcn := hD4.cnt
        refine cl (disk_write hd6 (b := zsec) ho6.sl hD4.left.2 ⟨by omega, by omega⟩ (by omega) (fun b hb => hB0 b (by have := hm6.size; omega)) (L.nx + 1 + nd l.length)) ?_
        rintro v w7 ⟨rfl, hd7, hm7⟩
        have hm7' := hm6.trans hm7
        cases hok : dWriteOk D4 (L.nx + 1 + nd l.length) zsec with
        | false =>
          rw [dWrite_same hok] at hd7
          rw [hok, if_pos rfl] at hP
          conv => whnf
          rw [hP]
          exact ⟨rfl, hd7, hm7'⟩
        | true =>
          rw [hok, if_neg (by decide)] at hP
          conv => whnf
          exact ⟨_, mkfr _ ⟨rfl, rfl, trivial⟩, hd7, hD4.write _ _, hm7', hP⟩
      · rw [if_neg (by omega)] at hP
        conv => whnf
        exact ⟨D4, mkfr _ ⟨rfl, rfl, trivial⟩, hd5, hD4.mono (by omega), hm5, hP⟩
  rintro e w1 ⟨D2, ⟨g, rfl⟩, hd1, hD2, hm1, hP⟩
  rw [hP]
  clear hP
  have hb1 := hb.kp (hm1.kp (by decide))
  have hx1 := hm1.size
  conv => whnf
  refine draw TryzT_ok Tryz_mixed (fun w2 hx2 _ => ?_)
  have hb2 := hb1.ext hx2
  have hd2 := hd1.ext hx2
  have hm2 := hm1.trans hx2.mod
  have hx2' := hm2.size
  clear hb1 hd1 hm1 hx2 hx1
  conv => whnf
  refine ldL TryzT_ok hb2 ?_
  conv => whnf
  refine cl (disk_sync hd2 (by have := hD2.len; omega) (fun b hb => hB0 b (by omega))) ?_
  rintro v w3 ⟨rfl, hd3, hm3⟩
  have hb3 := hb2.kp (hm3.kp (by decide))
  have hm3' := hm2.trans hm3
  have hx3' := hm3'.size
  have hD3 := hD2.sync
  unfold lgPut2
  cases hbr : D2.broken with
  | true =>
    rw [dSync_same hbr] at hd3
    conv => whnf
    rw [if_pos rfl]
    exact ⟨rfl, hd3, hm3'⟩
  | false =>
    rw [if_neg (by decide)]
    conv => whnf
    refine ldL TryzT_ok hb3 ?_
    conv => whnf
    refine ldL TryzT_ok hb3 ?_
    conv => whnf
    refine ldL TryzT_ok hb3 ?_
    conv => whnf
    refine Ar.i (by omega) ?_
    conv => whnf
    refine cl (lg_head hb3 ((k : Int) + 1) (l.length : Int)) ?_
    rintro v w4 ⟨⟨a4, c4, rfl, ho4, hf4⟩, hx4⟩
    have hb4 := hb3.ext hx4
    have hd4 := hd3.ext hx4
    have hm4 := hm3'.trans hx4.mod
    have hwr := hD3.wrt
    have hcn := hD3.cnt
    conv => whnf
    refine ⟨hb4.cell 3, ?_⟩
    conv => whnf
    refine ⟨hb4.cell 0, ?_⟩
    conv => whnf
    refine cl (disk_write hd4 ho4.sl hD3.left.2 ⟨by omega, by omega⟩ (by omega) (fun b hb => hB0 b (by have := hm4.size; omega)) L.nx) ?_
    rintro v w5 ⟨rfl, hd5, hm5⟩
    have hb5 := hb4.kp (hm5.kp (by decide))
    have hm5' := hm4.trans hm5
    have hx5 := hm5'.size
    have hD5 := hD3.write L.nx (headB L.ep ((k : Int) + 1) l.length)
    cases hok : dWriteOk (dSync D2) L.nx (headB L.ep ((k : Int) + 1) l.length) with
    | false =>
      rw [dWrite_same hok] at hd5
      rw [if_pos rfl]
      conv => whnf
      exact ⟨rfl, hd5, hm5'⟩
    | true =>
      rw [if_neg (by decide)]
      conv => whnf
      refine ldL TryzT_ok hb5 ?_
      conv => whnf
      refine cl (disk_sync hd5 (by have := hD5.len; omega) (fun b hb => hB0 b (by omega))) ?_
      rintro v w6 ⟨rfl, hd6, hm6⟩
      have hm6' := hm5'.trans hm6
      cases hb2 : (dWrite (dSync D2) L.nx (headB L.ep ((k : Int) + 1) l.length)).broken with
      | true =>
        rw [dSync_same hb2] at hd6
        rw [if_pos rfl]
        conv => whnf
        exact ⟨rfl, hd6, hm6'⟩
      | false =>
        rw [if_neg (by decide)]
        conv => whnf
        exact ⟨rfl, hd6, hm6'⟩

end Go.Pst

namespace Go.Pst
open Go Go.Proofs

theorem DiskR.mono {F F' : Nat → Prop} {w : World} {d : Nat} {D : DSt} (h : DiskR F w d D) (hF : ∀ b, b < w.heap.size → F b → F' b) : DiskR F' w d D := by
  obtain ⟨a1, n1, c1, a2, n2, c2, a3, n3, c3, h1, h2, h3, h4, h5⟩ := h
  refine ⟨a1, n1, c1, a2, n2, c2, a3, n3, c3, h1, hF d h1.blk.lt h2, fun b hb => ?_, fun b hb => ?_, fun b hb => ?_⟩
  · obtain ⟨x, hx⟩ := h1.sure.blk hb; exact hF b hx.lt (h3 b hb)
  · obtain ⟨x, hx⟩ := h1.now.blk hb; exact hF b hx.lt (h4 b hb)
  · obtain ⟨x, hx⟩ := h1.uns.blk hb; exact hF b hx.lt (h5 b hb)
theorem DiskR.chg {M F : Nat → Prop} {w w' : World} {d : Nat} {D : DSt} (h : DiskR F w d D) (hc : Chg M w w') (hM : ∀ b, F b → ¬ M b) (hk : Kp 5 w w') : DiskR F w' d D := by
  obtain ⟨a1, n1, c1, a2, n2, c2, a3, n3, c3, h1, h2, h3, h4, h5⟩ := h
  exact ⟨a1, n1, c1, a2, n2, c2, a3, n3, c3, ⟨h1.blk.chg hc (hM _ h2), h1.sure.chg hc (fun b hb => hM b (h3 b hb)) hk, h1.now.chg hc (fun b hb => hM b (h4 b hb)) hk, h1.uns.chg hc (fun b hb => hM b (h5 b hb)) hk, h1.apart⟩, h2, h3, h4, h5⟩
theorem Secs.kp {w w' : World} {v : Value} {l : List Sec} (h : Secs w v l) (h1 : Kp 36 w w') (h2 : Kp 5 w w') : Secs w' v l := by
  obtain ⟨cs, h3, h4⟩ := h
  exact ⟨cs, h3.kp h1, h4.mono fun c x _ h => h.kp h2⟩
theorem Wrs.kp {w w' : World} {v : Value} {l : List (Nat × Sec)} (h : Wrs w v l) (h1 : Kp 102 w w') (h2 : Kp 5 w w') : Wrs w' v l := by
  obtain ⟨cs, h3, h4⟩ := h
  exact ⟨cs, h3.kp h1, h4.mono fun c x _ h => h.kp h2⟩
theorem DiskR.kp {F : Nat → Prop} {w w' : World} {d : Nat} {D : DSt} (h : DiskR F w d D) (hk0 : Kp 75 w w') (hk1 : Kp 36 w w') (hk2 : Kp 102 w w') (hk : Kp 5 w w') : DiskR F w' d D := by
  obtain ⟨a1, n1, c1, a2, n2, c2, a3, n3, c3, h1, h5⟩ := h
  exact ⟨a1, n1, c1, a2, n2, c2, a3, n3, c3, ⟨h1.blk.kp hk0, h1.sure.kp hk1 hk, h1.now.kp hk1 hk, h1.uns.kp hk2 hk, h1.apart⟩, h5⟩

/-- a disk, and a log on it of k records, in blocks from B0 on, side by side -/
def DL (B0 : Nat) (w : World) (d p : Nat) (D : DSt) (L : LSt) (k : Nat) : Prop :=
  ∃ a c cs, LogB w p d L (.slice a k c) ∧ Own w (.slice a k c) 36 1 k cs ∧ DiskR (fun b => B0 ≤ b ∧ ¬ blkOf (.slice a k c) b) w d D ∧ B0 ≤ p ∧ ∀ b, blkOf (.slice a k c) b → B0 ≤ b
theorem DL.ext {B0 : Nat} {w w' : World} {d p : Nat} {D : DSt} {L : LSt} {k : Nat} (h : DL B0 w d p D L k) (hx : Ext w w') : DL B0 w' d p D L k := by
  obtain ⟨a, c, cs, h1, h2, h3, h4⟩ := h
  exact ⟨a, c, cs, h1.ext hx, h2.ext hx, h3.ext hx, h4⟩

/-- the types of a log's and its disk's own blocks -/
def SL : List Nat := [75, 36, 102, 173]
theorem SD_SL : ∀ E ∈ SD, E ∈ SL := by decide

def lgApp (D : DSt) (L : LSt) (k : Nat) (l : List UInt8) : Int × DSt × LSt × Nat :=
  if L.failed then (12, D, L, k)
  else if lgFits L l.length = false then (6, D, L, k)
  else
    let x := lgPut D L k l
    if x.1 then (0, x.2, { L with nx := L.nx + (1 + nd l.length) }, k + 1) else (12, x.2, { L with failed := true }, k)

theorem DOk.lgApp {K : Nat} {D : DSt} (h : DOk K D) (L : LSt) (k : Nat) (l : List UInt8) : DOk (K + 4098) (lgApp D L k l).2.1 := by
  unfold Go.Pst.lgApp
  have h1 := h.lgPut L k l
  split
  · exact h.mono (by omega)
  split
  · exact h.mono (by omega)
  simp only
  split
  · exact h1
  · exact h1

set_option maxRecDepth 8000 in
/-- Append -/
theorem lg_append {B0 K : Nat} {w : World} {p d : Nat} {D : DSt} {L : LSt} {k : Nat} {v : Value} {l : List UInt8} (h : DL B0 w d p D L k) (hD : DOk K D) (hK : K ≤ 100000000000)
    (hL : LOk L) (hk : k ≤ 1000000000) (hv : Sl w v 5 1 l.length (B l)) (hl : l.length ≤ 1000000000) :
    Does Tryz.prog 73 [.pointer (some ⟨p, 0, none⟩), v] w fun r w' => r = .int .i64 (lgApp D L k l).1 ∧ DL B0 w' d p (lgApp D L k l).2.1 (lgApp D L k l).2.2.1 (lgApp D L k l).2.2.2 ∧ Mod (fun b => B0 ≤ b) SL w w' := by
  have h1 := hL.en
  have h2 := hL.nx
  have hndl : nd l.length ≤ l.length := by unfold nd; omega
  obtain ⟨av, cv, rfl⟩ := hv.isSlice
  have h0 := h
  obtain ⟨a, c, cs, hb, ho, hd, hp, hbo⟩ := h
  have hF : ∀ w' : World, w.heap.size ≤ w'.heap.size → ∀ b, w'.heap.size ≤ b → B0 ≤ b ∧ ¬ blkOf (.slice a k c) b := by
    intro w' hw b hb2
    have hpl := Blk.lt hb
    refine ⟨by omega, fun h => ?_⟩
    obtain ⟨x, hx⟩ := ho.blk h
    have := hx.lt; omega
  unfold LogB at hb
  refine does1 TryzT_ok Tryz.func73 Tryz.call73 Tryz.ntmps73 Tryz.results73 ?_
  conv => whnf
  refine ld TryzT_ok hb ?_
  conv => whnf
  refine ld TryzT_ok hb ?_
  cases hfl : L.failed with
  | true =>
    conv => whnf
    unfold lgApp; rw [if_pos hfl]
    exact ⟨rfl, h0, Mod.refl _ _ _⟩
  | false =>
    have hA : lgApp D L k l = (if lgFits L l.length = false then (6, D, L, k)
      else if (lgPut D L k l).1 then (0, (lgPut D L k l).2, { L with nx := L.nx + (1 + nd l.length) }, k + 1) else (12, (lgPut D L k l).2, { L with failed := true }, k)) := by
      unfold lgApp; rw [if_neg (by rw [hfl]; decide)]
    rw [hfl] at hb
    have hb' : LogB w p d L (.slice a k c) := by unfold LogB; rw [hfl]; exact hb
    conv => whnf
    refine cl (lg_fits hb' hL (l.length : Int) (by omega)) ?_
    rintro v w1 ⟨rfl, hx1⟩
    cases hft : lgFits L l.length with
    | false =>
      conv => whnf
      rw [hA, if_pos hft]
      exact ⟨rfl, h0.ext hx1, hx1.mod⟩
    | true =>
      rw [if_neg (by rw [hft]; decide)] at hA
      have hft' := hft
      simp only [lgFits, decide_eq_true_eq, needI_nat] at hft'
      conv => whnf
      refine cl (lg_put (hd.ext hx1) hD hK (hF w1 hx1.size) (hb'.ext hx1) hL hk (hv.ext hx1) hl) ?_
      rintro v w2 ⟨rfl, hd2, hm2⟩
      have hb2 := (hb.ext hx1).kp (hm2.kp (by decide))
      have ho2 := (ho.ext hx1).chg hm2 (fun b hb h => h.1.2 hb)
      have hv2 := (hv.ext hx1).kp (hm2.kp (by decide))
      have hm2' : Mod (fun b => B0 ≤ b) SL w w2 := hx1.mod.trans (hm2.mono (fun b h => h.1) SD_SL)
      have hs2 := hm2'.size
      generalize lgPut D L k l = x at hd2 hA ⊢
      obtain ⟨ok, D2⟩ := x
      simp only at hd2 hA
      cases ok with
      | false =>
        rw [if_neg (by decide)] at hA
        conv => whnf
        refine st TryzT_ok hb2 ?_
        conv => whnf
        intro w3 hb3 hc3 hs3
        conv => whnf
        rw [hA]
        refine ⟨rfl, ⟨a, c, cs, hb3, ho2.kp (hc3.kpb hb2 (by decide)), hd2.kp (hc3.kpb hb2 (by decide)) (hc3.kpb hb2 (by decide)) (hc3.kpb hb2 (by decide)) (hc3.kpb hb2 (by decide)), hp, hbo⟩, hm2'.trans (hc3.modB hb2 hp (by decide))⟩
      | true =>
        rw [if_pos rfl] at hA
        conv => whnf
        refine draw TryzT_ok Tryz_mixed (fun w3 hx3 _ => ?_)
        have hb3 := hb2.ext hx3
        have ho3 := ho2.ext hx3
        have hd3 := hd2.ext hx3
        have hv3 := hv2.ext hx3
        conv => whnf
        refine ldL TryzT_ok hb3 ?_
        conv => whnf
        refine cl (clone_bytes hv3 (by omega)) ?_
        rintro v w4 ⟨a4, c4, rfl, hx4, ho4, hf4⟩
        have hb4 := hb3.ext hx4
        conv => whnf
        refine ⟨hb4.cell 5, ?_⟩
        conv => whnf
        refine bs (sz := 1) TryzT_ok ?_
        conv => whnf
        refine ⟨rfl, fun b5 w5 ho5 hs5 hx5 => ?_⟩
        have hb5 := hb4.ext hx5
        have ho3' := (ho3.ext hx4).ext hx5
        have hd5 := (hd3.ext hx4).ext hx5
        have hm5 := ((hm2'.trans hx3.mod).trans hx4.mod).trans hx5.mod
        have hs5' := hm5.size
        clear hb3 ho3 hd3 hb2 ho2 hd2 hm2'
        conv => whnf
        refine ⟨hb5.cell 5, ?_⟩
        conv => whnf
        refine ap TryzT_ok ho3' ho5.sl (by omega) (fun a6 c6 w6 hap => ?_)
        have hb6 := hb5.kp (hap.kp ho3' (E' := 173) (by decide))
        have hd6 := hd5.chg hap.chg (fun b h => h.2) (hap.kp ho3' (by decide))
        have hm6 : Mod (fun b => B0 ≤ b) SL w w6 := hm5.trans (hap.chg.mono fun x hx e => ⟨hbo x e, _, _, (ho3'.blk e).choose_spec, by decide⟩)
        have hbo6 : ∀ b, blkOf (.slice a6 (k + 1) c6) b → B0 ≤ b := by
          intro x hx
          rcases hap.at_ x hx with h | h
          · exact hbo x h
          · exact (hF w5 hs5' x h).1
        have hd6' : DiskR (fun b => B0 ≤ b ∧ ¬ blkOf (.slice a6 (k + 1) c6) b) w6 d D2 := by
          have hd5' : DiskR (fun b => B0 ≤ b ∧ ¬ blkOf (.slice a k c) b ∧ b < w5.heap.size) w5 d D2 := hd5.mono fun b hb h => ⟨h.1, h.2, hb⟩
          refine (hd5'.chg hap.chg (fun b h => h.2.1) (hap.kp ho3' (by decide))).mono fun b _ h => ⟨h.1, fun h3 => ?_⟩
          rcases hap.at_ b h3 with h4 | h4
          · exact h.2.1 h4
          · have := h.2.2; omega
        have hown6 := hap.own
        clear hb5 hd5 hm5 hap hd6 ho5 ho3'
        conv => whnf
        refine st TryzT_ok hb6 ?_
        conv => whnf
        intro w7 hb7 hc7 hs7
        have hd7 := hd6'.kp (hc7.kpb hb6 (by decide)) (hc7.kpb hb6 (by decide)) (hc7.kpb hb6 (by decide)) (hc7.kpb hb6 (by decide))
        have ho7 := hown6.kp (hc7.kpb hb6 (by decide))
        have hm7 := hm6.trans (hc7.modB hb6 hp (by decide))
        conv => whnf
        refine draw TryzT_ok Tryz_mixed (fun w8 hx8 _ => ?_)
        have hb8 := hb7.ext hx8
        have hd8 := hd7.ext hx8
        have ho8 := ho7.ext hx8
        have hm8 := hm7.trans hx8.mod
        conv => whnf
        refine ldL TryzT_ok hb8 ?_
        conv => whnf
        refine cl (sp_need w8 (l.length : Int) (by omega)) ?_
        rintro v w9 ⟨rfl, rfl⟩
        rw [needI_nat]
        conv => whnf
        refine ⟨hb8.cell 3, ?_⟩
        conv => whnf
        refine Ar.i (by omega) ?_
        conv => whnf
        refine Ar.i (by omega) ?_
        conv => whnf
        refine st TryzT_ok hb8 ?_
        conv => whnf
        intro w10 hb10 hc10 hs10
        have hd10 := hd8.kp (hc10.kpb hb8 (by decide)) (hc10.kpb hb8 (by decide)) (hc10.kpb hb8 (by decide)) (hc10.kpb hb8 (by decide))
        have ho10 := ho8.kp (hc10.kpb hb8 (by decide))
        have hm10 := hm8.trans (hc10.modB hb8 hp (by decide))
        conv => whnf
        rw [hA]
        refine ⟨rfl, ⟨a6, c6, _, ?_, ho10, hd10, hp, hbo6⟩, hm10⟩
        unfold LogB
        simp only [hfl]
        exact hb10
end Go.Pst

namespace Go.Pst
open Go Go.Proofs

theorem nan_s (w : World) (s : ByteArray) : Does Tryz.prog 206 [.string s] w fun v w' => v = .bool false ∧ w' = w := by
  refine does1 TryzT_ok Tryz.func206 Tryz.call206 Tryz.ntmps206 Tryz.results206 ?_
  conv => whnf
  refine Cmp.no (by simp) ?_
  conv => whnf
  exact ⟨rfl, rfl⟩
theorem nan_i (w : World) (n : Int) : Does Tryz.prog 228 [.int .i64 n] w fun v w' => v = .bool false ∧ w' = w := by
  refine does1 TryzT_ok Tryz.func228 Tryz.call228 Tryz.ntmps228 Tryz.results228 ?_
  conv => whnf
  refine Cmp.no (by simp) ?_
  conv => whnf
  exact ⟨rfl, rfl⟩
theorem cmp_s (w : World) (a b : ByteArray) : Does Tryz.prog 183 [.string a, .string b] w fun v w' => v = .int .i64 (kcmp a b) ∧ w' = w := by
  refine does1 TryzT_ok Tryz.func183 Tryz.call183 Tryz.ntmps183 Tryz.results183 ?_
  conv => whnf
  refine cl (nan_s w a) ?_
  rintro v w1 ⟨rfl, rfl⟩
  conv => whnf
  refine cl (nan_s w1 b) ?_
  rintro v w2 ⟨rfl, rfl⟩
  conv => whnf
  refine Cmp.split (fun h => ?_) (fun h => ?_)
  · conv => whnf
    exact ⟨by simp [kcmp, h], rfl⟩
  conv => whnf
  refine Cmp.split (fun h2 => ?_) (fun h2 => ?_)
  · conv => whnf
    have h2 : (ltB a b || decide (a = b)) = false := by simpa using h2
    exact ⟨by unfold kcmp; rw [if_neg (by rw [h]; decide), if_neg (by rw [h2]; decide)], rfl⟩
  · conv => whnf
    have h2 : (ltB a b || decide (a = b)) = true := by
      cases h3 : (ltB a b || decide (a = b)) with
      | true => rfl
      | false => rw [h3] at h2; cases h2
    exact ⟨by unfold kcmp; rw [if_neg (by rw [h]; decide), if_pos h2], rfl⟩
theorem cmp_i (w : World) (a b : Int) : Does Tryz.prog 218 [.int .i64 a, .int .i64 b] w fun v w' => v = .int .i64 (icmp a b) ∧ w' = w := by
  refine does1 TryzT_ok Tryz.func218 Tryz.call218 Tryz.ntmps218 Tryz.results218 ?_
  conv => whnf
  refine cl (nan_i w a) ?_
  rintro v w1 ⟨rfl, rfl⟩
  conv => whnf
  refine cl (nan_i w1 b) ?_
  rintro v w2 ⟨rfl, rfl⟩
  conv => whnf
  refine Cmp.dec (fun h => ?_) (fun h => ?_)
  · conv => whnf
    exact ⟨by simp [icmp, h], rfl⟩
  conv => whnf
  refine Cmp.dec (fun h2 => ?_) (fun h2 => ?_)
  · conv => whnf
    exact ⟨by simp [icmp, h, h2], rfl⟩
  · conv => whnf
    exact ⟨by simp [icmp, h, h2], rfl⟩
/-- order.Keys -/
theorem or_keys (w : World) (a b : ByteArray) : Does Tryz.prog 132 [.string a, .string b] w fun v w' => v = .int .i64 (kcmp a b) ∧ w' = w := by
  refine does1 TryzT_ok Tryz.func132 Tryz.call132 Tryz.ntmps132 Tryz.results132 ?_
  conv => whnf
  refine cl (cmp_s w a b) ?_
  rintro v w1 ⟨rfl, rfl⟩
  conv => whnf
  exact ⟨rfl, rfl⟩
/-- cmp.Or of two -/
theorem cmp_or2 {w : World} {v : Value} {a b : Int} (h : Sl w v 3 1 2 [.int .i64 a, .int .i64 b]) : Does Tryz.prog 217 [v] w fun v w' => v = .int .i64 (if a ≠ 0 then a else b) ∧ w' = w := by
  obtain ⟨p, o, c, rfl⟩ := h.some (by omega)
  refine does1 TryzT_ok Tryz.func217 Tryz.call217 Tryz.ntmps217 Tryz.results217 ?_
  conv => whnf
  refine Cw.loopD TryzT_ok (ι := Nat) (fun i e w' => w' = w ∧ i ≤ 2 ∧ (∃ g, e = fr g [(3, .int .i64 0), (6, .slice (some ⟨p, o, none⟩) 2 c), (7, .int .i64 2), (8, .int .i64 (i : Int))]) ∧ (1 ≤ i → a = 0) ∧ (2 ≤ i → b = 0)) (fun i => 2 - i) 0 ⟨rfl, by omega, mkfr _ ⟨rfl, rfl, rfl, rfl, trivial⟩, by omega, by omega⟩ ?_
  rintro i e w1 ⟨rfl, hi, ⟨g, rfl⟩, ha, hb⟩
  conv => whnf
  refine Cmp.dec (fun hlt => ?_) (fun hlt => ?_)
  · conv => whnf
    refine ia (sz := 1) TryzT_ok ?_ ?_
    · omega
    have hi' : i = 0 ∨ i = 1 := by omega
    rcases hi' with rfl | rfl
    · conv => whnf
      refine OpR.ldC TryzT_ok (h.elem 0 (by omega) 0 _ rfl) ?_
      conv => whnf
      refine Cmp.split (fun hd => ?_) (fun hd => ?_)
      · conv => whnf
        have hd : a ≠ 0 := by simpa using hd
        exact ⟨by rw [if_pos hd], rfl⟩
      · have hd : a = 0 := by simpa using hd
        conv => whnf
        refine Ar.i (by omega) ?_
        conv => whnf
        exact ⟨1, ⟨rfl, by omega, mkfr _ ⟨rfl, rfl, rfl, rfl, trivial⟩, fun _ => hd, by omega⟩, by omega⟩
    · conv => whnf
      refine OpR.ldC TryzT_ok (h.elem 1 (by omega) 0 _ rfl) ?_
      have ha := ha (by omega)
      conv => whnf
      refine Cmp.split (fun hd => ?_) (fun hd => ?_)
      · conv => whnf
        exact ⟨by rw [if_neg (by simpa using ha)], rfl⟩
      · have hd : b = 0 := by simpa using hd
        conv => whnf
        refine Ar.i (by omega) ?_
        conv => whnf
        exact ⟨2, ⟨rfl, by omega, mkfr _ ⟨rfl, rfl, rfl, rfl, trivial⟩, fun _ => ha, fun _ => hd⟩, by omega⟩
  · conv => whnf
    have h1 := ha (by omega)
    have h2 := hb (by omega)
    subst h1 h2
    exact ⟨rfl, rfl⟩
/-- order.Msgs -/
theorem or_msgs (w : World) (a b : Msg) : Does Tryz.prog 204 [.agg ⟨cMsg a⟩, .agg ⟨cMsg b⟩] w fun v w' => v = .int .i64 (mcmp a b) ∧ Ext w w' := by
  have X := Chg.refl (M := fun _ => False) w
  refine does1 TryzT_ok Tryz.func204 Tryz.call204 Tryz.ntmps204 Tryz.results204 ?_
  conv => whnf
  refine bx ?_
  conv => whnf
  intro p w1 hp _ hx1 _
  replace X := X.trans hx1
  conv => whnf
  refine bx ?_
  conv => whnf
  intro q w2 hq _ hx2 _
  replace X := X.trans hx2
  replace hp := hp.ext hx2
  conv => whnf
  refine draw TryzT_ok Tryz_mixed (fun w3 hx3 _ => ?_)
  replace X := X.trans hx3
  replace hp := hp.ext hx3
  replace hq := hq.ext hx3
  conv => whnf
  refine ldL TryzT_ok hp ?_
  conv => whnf
  refine ldL TryzT_ok hq ?_
  conv => whnf
  refine ldL TryzT_ok hp ?_
  conv => whnf
  refine ldL TryzT_ok hq ?_
  conv => whnf
  refine cl (cmp_i w3 a.pri b.pri) ?_
  rintro v w4 ⟨rfl, rfl⟩
  conv => whnf
  refine ⟨hq.cell 0, hp.cell 0, ?_⟩
  conv => whnf
  refine cl (cmp_i w4 a.id b.id) ?_
  rintro v w5 ⟨rfl, rfl⟩
  conv => whnf
  refine bs (sz := 1) TryzT_ok ?_
  conv => whnf
  refine ⟨rfl, fun b6 w6 ho6 hs6 hx6 => ?_⟩
  conv => whnf
  refine cl (cmp_or2 ho6.sl) ?_
  rintro v w7 ⟨rfl, rfl⟩
  conv => whnf
  exact ⟨rfl, X.trans hx6⟩

/-- message.Right -/
theorem ms_right (w : World) (m : Msg) : Does Tryz.prog 174 [.agg ⟨cMsg m⟩] w fun v w' => v = .bool (mRight m) ∧ Ext w w' := by
  refine does1 TryzT_ok Tryz.func174 Tryz.call174 Tryz.ntmps174 Tryz.results174 ?_
  conv => whnf
  refine bx ?_
  conv => whnf
  intro p w1 hp _ hx1 _
  unfold mRight
  repeat' ((conv => whnf); first | refine ld TryzT_ok hp ?_ | refine Cmp.dec (fun _ => ?_) (fun _ => ?_))
  all_goals conv => whnf
  all_goals
    refine ⟨?_, hx1⟩
    congr 1
    first
    | (rw [eq_comm, decide_eq_false_iff_not]; omega)
    | (rw [eq_comm, decide_eq_true_iff]; omega)
theorem rw_key (w : World) (k : ByteArray) : Does Tryz.prog 173 [.string k] w fun v w' => v = .bool (kRight k) ∧ w' = w := by
  refine does1 TryzT_ok Tryz.func173 Tryz.call173 Tryz.ntmps173 Tryz.results173 ?_
  unfold kRight
  repeat' ((conv => whnf); first | refine Cmp.dec (fun _ => ?_) (fun _ => ?_))
  all_goals conv => whnf
  all_goals
    refine ⟨?_, rfl⟩
    congr 1
    first
    | (rw [eq_comm, decide_eq_false_iff_not]; omega)
    | (rw [eq_comm, decide_eq_true_iff]; omega)
theorem rw_right (w : World) (r : Row) : Does Tryz.prog 172 [.agg ⟨cRow r⟩] w fun v w' => v = .bool (rRight r) ∧ Ext w w' := by
  refine does1 TryzT_ok Tryz.func172 Tryz.call172 Tryz.ntmps172 Tryz.results172 ?_
  conv => whnf
  refine bx ?_
  conv => whnf
  intro p w1 hp _ hx1 _
  conv => whnf
  refine ld TryzT_ok hp ?_
  conv => whnf
  refine cl (rw_key w1 r.key) ?_
  rintro v w2 ⟨rfl, rfl⟩
  unfold rRight
  cases kRight r.key with
  | false =>
    conv => whnf
    exact ⟨rfl, hx1⟩
  | true =>
    conv => whnf
    refine ld TryzT_ok hp ?_
    conv => whnf
    refine Cmp.keep ?_
    conv => whnf
    refine ⟨?_, hx1⟩
    congr 1; rw [Bool.true_and, decide_eq_decide]; omega
theorem ef_name (w : World) (k : ByteArray) : Does Tryz.prog 171 [.string k] w fun v w' => v = .bool (nRight k) ∧ w' = w := by
  refine does1 TryzT_ok Tryz.func171 Tryz.call171 Tryz.ntmps171 Tryz.results171 ?_
  unfold nRight
  repeat' ((conv => whnf); first | refine Cmp.dec (fun _ => ?_) (fun _ => ?_))
  all_goals conv => whnf
  all_goals
    refine ⟨?_, rfl⟩
    congr 1
    first
    | (rw [eq_comm, decide_eq_false_iff_not]; omega)
    | (rw [eq_comm, decide_eq_true_iff]; omega)
theorem ef_id (w : World) (k : Int) : Does Tryz.prog 175 [.int .i64 k] w fun v w' => v = .bool (idRight k) ∧ w' = w := by
  refine does1 TryzT_ok Tryz.func175 Tryz.call175 Tryz.ntmps175 Tryz.results175 ?_
  unfold idRight
  repeat' ((conv => whnf); first | refine Cmp.dec (fun _ => ?_) (fun _ => ?_))
  all_goals conv => whnf
  all_goals
    refine ⟨?_, rfl⟩
    congr 1
    first
    | (rw [eq_comm, decide_eq_false_iff_not]; omega)
    | (rw [eq_comm, decide_eq_true_iff]; omega)
theorem ef_object (w : World) (k : ByteArray) (kind limit : Int) : Does Tryz.prog 170 [.string k, .int .i64 kind, .int .i64 limit] w fun v w' => v = .bool (oRight0 k kind limit) ∧ w' = w := by
  refine does1 TryzT_ok Tryz.func170 Tryz.call170 Tryz.ntmps170 Tryz.results170 ?_
  conv => whnf
  refine cl (ef_name w k) ?_
  rintro v w1 ⟨rfl, rfl⟩
  unfold oRight0
  cases nRight k with
  | false =>
    conv => whnf
    exact ⟨rfl, rfl⟩
  | true =>
    conv => whnf
    refine Cmp.dec (fun h1 => ?_) (fun h1 => ?_)
    · conv => whnf
      refine Cmp.keep ?_
      conv => whnf
      exact ⟨by rw [if_pos h1]; rfl, rfl⟩
    rw [if_neg h1]
    conv => whnf
    refine Cmp.dec (fun h2 => ?_) (fun h2 => ?_)
    · rw [if_pos h2]
      repeat' ((conv => whnf); first | refine Cmp.dec (fun _ => ?_) (fun _ => ?_))
      all_goals conv => whnf
      all_goals
        refine ⟨?_, rfl⟩
        congr 1
        first
        | (rw [eq_comm, Bool.true_and, decide_eq_false_iff_not]; omega)
        | (rw [eq_comm, Bool.true_and, decide_eq_true_iff]; omega)
    · rw [if_neg h2]
      conv => whnf
      exact ⟨rfl, rfl⟩
end Go.Pst

