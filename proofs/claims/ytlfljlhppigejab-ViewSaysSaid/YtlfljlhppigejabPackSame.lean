/-
  Are two views one? The walks of view.Same and of the document's SameView: any two. (NOT YET BUILT.) The walks of view.Same and of the document's SameView: any two views. (Printed by gen_viewsame.py.)
-/
import Derived.Test.YtlfljlhppigejabPackVw
import Derived.BigQuiet
import Derived.Deep.QuietTactic
import Derived.ChangeKeysEq
import Derived.Laws.StructEq
namespace Go.Proofs.Ytlfljlhppigejab
open Go.RowKit

theorem int_eqn (x y : Int) (w : World) : (Op.equalIn 9999 3 (.int .i64 x) (.int .i64 y)).run Try.prog w = .ok (decide (x = y)) w := by
  rw [show (9999 : Nat) = 9998 + 1 from rfl, run_equalIn_int w 9998 _ .i64 .i64 x y (by kernel_rfl)]
  by_cases h : x = y <;> simp [h]
theorem pair_eqn (a b c d : Int) (w : World) : (Op.equalIn 10000 22 (.agg #[.int .i64 a, .int .i64 b]) (.agg #[.int .i64 c, .int .i64 d])).run Try.prog w = .ok (decide (a = c ∧ b = d)) w := by
  have hi : ∃ i, Try.prog.info? 3 = some i := ⟨(Try.prog.info? 3).get (by kernel_rfl), by kernel_rfl⟩
  obtain ⟨i, hi⟩ := hi
  have hc : Try.prog.cellsOf 3 = 1 := by kernel_rfl
  rw [show (10000 : Nat) = 9999 + 1 from rfl, run_equalIn_array w 9999 _ _ (n := 2) (e := 3) (by kernel_rfl) hi, hc]
  simp only [show List.range 2 = [0, 1] from rfl, Op.eqItems]
  have hp0 : (part 3 #[.int .i64 a, .int .i64 b] (0 * 1)).run Try.prog w = .ok (.int .i64 a) w := by kernel_rfl
  have hp1 : (part 3 #[.int .i64 a, .int .i64 b] (1 * 1)).run Try.prog w = .ok (.int .i64 b) w := by kernel_rfl
  have hq0 : (part 3 #[.int .i64 c, .int .i64 d] (0 * 1)).run Try.prog w = .ok (.int .i64 c) w := by kernel_rfl
  have hq1 : (part 3 #[.int .i64 c, .int .i64 d] (1 * 1)).run Try.prog w = .ok (.int .i64 d) w := by kernel_rfl
  by_cases h1 : a = c
  · subst h1
    by_cases h2 : b = d
    · subst h2
      simp [hp0, hp1, int_eqn, Result.andThen]
    · simp [hp0, hp1, hq0, hq1, int_eqn, Result.andThen, h2]
  · simp [hp0, hq0, int_eqn, Result.andThen, h1]
def fieldsEq (l : List (Int × Int)) : Bool := l.all (fun p => decide (p.1 = p.2))
theorem eqFields_any (w : World) (xs ys : Array Value) (fx : Nat → Int × Int) (fs : List Field) (h : ∀ f ∈ fs, f.name ≠ "_" ∧ f.type = 3 ∧ (part 3 xs f.offset).run Try.prog w = .ok (.int .i64 (fx f.offset).1) w ∧ (part 3 ys f.offset).run Try.prog w = .ok (.int .i64 (fx f.offset).2) w) :
    (Op.eqFields 9999 xs ys fs).run Try.prog w = .ok (fieldsEq (fs.map (fun f => fx f.offset))) w := by
  induction fs with
  | nil => simp [Op.eqFields, fieldsEq]
  | cons f fs ih =>
    obtain ⟨h1, h2, h3, h4⟩ := h f (by simp)
    have ih := ih (fun g hg => h g (by simp [hg]))
    simp only [Op.eqFields, h1, ne_eq, not_false_eq_true, if_true, Sem.run_bind, h2, h3, h4, Result.andThen_ok, int_eqn]
    by_cases he : (fx f.offset).1 = (fx f.offset).2
    · have e : fieldsEq ((f :: fs).map (fun f => fx f.offset)) = fieldsEq (fs.map (fun f => fx f.offset)) := by simp [fieldsEq, he]
      rw [e]
      simp only [he, decide_true, Bool.not_true, Bool.false_eq_true, if_false]
      exact ih
    · have e : fieldsEq ((f :: fs).map (fun f => fx f.offset)) = false := by simp [fieldsEq, he]
      rw [e]
      simp [he]
def snPairs (s r : Sn) : Nat → Int × Int
  | 0 => (s.x, r.x)
  | 1 => (s.y, r.y)
  | 2 => (s.owner, r.owner)
  | 3 => (s.kind, r.kind)
  | 4 => (s.hp, r.hp)
  | 5 => (s.does, r.does)
  | 6 => (s.gx, r.gx)
  | 7 => (s.gy, r.gy)
  | 8 => (s.tx, r.tx)
  | _ => (s.ty, r.ty)
theorem seen_offsets : (Try.prog.fieldsOf 136).toList.map (·.offset) = [0, 1, 2, 3, 4, 5, 6, 7, 8, 9] := by kernel_rfl
theorem snPairs_all (s r : Sn) : fieldsEq ([0, 1, 2, 3, 4, 5, 6, 7, 8, 9].map (snPairs s r)) = decide (s = r) := by
  cases s
  cases r
  simp only [fieldsEq, snPairs, List.map_cons, List.map_nil, List.all_cons, List.all_nil, Bool.and_true]
  rw [← Bool.decide_and, ← Bool.decide_and, ← Bool.decide_and, ← Bool.decide_and, ← Bool.decide_and, ← Bool.decide_and, ← Bool.decide_and, ← Bool.decide_and, ← Bool.decide_and]
  rw [decide_eq_decide]
  simp
theorem seen_eqn (s r : Sn) (w : World) : (Op.equalIn 10000 136 (.agg (encSn s).toArray) (.agg (encSn r).toArray)).run Try.prog w = .ok (decide (s = r)) w := by
  rw [show (10000 : Nat) = 9999 + 1 from rfl, run_equalIn_struct w 9999 _ _ _ (by kernel_rfl) (by kernel_rfl)]
  have hf : ∀ f ∈ (Try.prog.fieldsOf 136).toList, f.name ≠ "_" ∧ f.type = 3 ∧ f.offset < 10 := of_decide_eq_true (by kernel_rfl)
  rw [eqFields_any w _ _ (snPairs s r) _ (fun f hf' => ?_)]
  · rw [← snPairs_all, ← seen_offsets, List.map_map]
    rfl
  obtain ⟨h1, h2, h3⟩ := hf f hf'
  refine ⟨h1, h2, ?_⟩
  have : f.offset = 0 ∨ f.offset = 1 ∨ f.offset = 2 ∨ f.offset = 3 ∨ f.offset = 4 ∨ f.offset = 5 ∨ f.offset = 6 ∨ f.offset = 7 ∨ f.offset = 8 ∨ f.offset = 9 := by omega
  rcases this with h | h | h | h | h | h | h | h | h | h <;> rw [h] <;> exact ⟨by kernel_rfl, by kernel_rfl⟩

/-- Are two views one? -/
def sameVw (t g0 g1 t' h0 h1 : Int) (xs ys : List Sn) : Bool := decide (t = t' ∧ (g0 = h0 ∧ g1 = h1) ∧ xs = ys)
theorem sameVw_true {t g0 g1 t' h0 h1 : Int} {xs ys : List Sn} (e1 : t = t') (e2 : g0 = h0 ∧ g1 = h1) (e3 : xs.length = ys.length) (e4 : ∀ k, k < xs.length → xs.getD k default = ys.getD k default) : sameVw t g0 g1 t' h0 h1 xs ys = true := by
  refine decide_eq_true ⟨e1, e2, List.ext_getElem e3 (fun k hk hk' => ?_)⟩
  have := e4 k hk
  rw [List.getD_eq_getElem?_getD, List.getD_eq_getElem?_getD, List.getElem?_eq_getElem hk, List.getElem?_eq_getElem hk'] at this
  exact this
theorem sameVw_false {t g0 g1 t' h0 h1 : Int} {xs ys : List Sn} (h : t ≠ t' ∨ ¬ (g0 = h0 ∧ g1 = h1) ∨ xs.length ≠ ys.length ∨ ∃ k, xs.getD k default ≠ ys.getD k default) : sameVw t g0 g1 t' h0 h1 xs ys = false := by
  refine decide_eq_false (fun ⟨e1, e2, e3⟩ => ?_)
  subst e3
  rcases h with h | h | h | ⟨k, h⟩
  · exact h e1
  · exact h e2
  · exact h rfl
  · exact h rfl
end Go.Proofs.Ytlfljlhppigejab
namespace Go.Proofs.Ytlfljlhppigejab
open Go.RowKit
attribute [local go_sem] qOne qAt qUp qOneK

set_option maxHeartbeats 3200000 in
set_option maxRecDepth 100000 in
theorem refsameview_any (t g0 g1 t' h0 h1 : Int) (xs ys : List Sn) (a b : Option Addr) (ca cb : Nat) (hl : xs.length ≤ 100000) (_hl2 : ys.length ≤ 100000) (w : World) (ha : SRow w.heap.size w a xs) (hb : SRow w.heap.size w b ys) :
    Calls Try.prog 31 #[.agg #[.int .i64 t, .int .i64 g0, .int .i64 g1, .slice a xs.length ca], .agg #[.int .i64 t', .int .i64 h0, .int .i64 h1, .slice b ys.length cb]] w fun e w' => e = .returned (.bool (sameVw t g0 g1 t' h0 h1 xs ys)) ∧ Below w.heap.size w w' := by
  obtain ⟨W, hW⟩ : ∃ W, (w.alloc (.cells #[.int .i64 t, .int .i64 g0, .int .i64 g1, .slice a xs.length ca] 61)).alloc (.cells #[.int .i64 t', .int .i64 h0, .int .i64 h1, .slice b ys.length cb] 61) = W := ⟨_, rfl⟩
  have hbW : Below w.heap.size w W := by rw [← hW]; exact ((Below.refl _ _).alloc (Nat.le_refl _) _).alloc (by simp) _
  have k1 : Blk W w.heap.size #[.int .i64 t, .int .i64 g0, .int .i64 g1, .slice a xs.length ca] := by rw [← hW]; exact (Blk.new w _ _).alloc _
  have k2 : Blk W (w.heap.size + 1) #[.int .i64 t', .int .i64 h0, .int .i64 h1, .slice b ys.length cb] := by
    rw [← hW]
    have := Blk.new (w.alloc (.cells #[.int .i64 t, .int .i64 g0, .int .i64 g1, .slice a xs.length ca] 61)) #[.int .i64 t', .int .i64 h0, .int .i64 h1, .slice b ys.length cb] 61
    simpa using this
  obtain ⟨l1, c1, -⟩ := id k1
  obtain ⟨l2, c2, -⟩ := id k2
  have hsW := hbW.size
  have HA := Lib.hid (ha.below hbW)
  have HB := Lib.hid (hb.below hbW)
  have K1 := Lib.hid k1
  have K2 := Lib.hid k2
  have HBW := Lib.hid hbW
  have hn0 : (0 : Int) ≤ (xs.length : Int) := by omega
  clear ha hb hbW k1 k2
  go_enter Try.func31, Try.ntmps31
  go_upto_region 1 with fail
  try rw [hW]
  clear hW
  by_cases ht : t = t'
  case neg =>
    have HV := Lib.hid (sameVw_false (t := t) (t' := t') (g0 := g0) (g1 := g1) (h0 := h0) (h1 := h1) (xs := xs) (ys := ys) (Or.inl ht))
    have dt : (t != t') = true := by simp [ht]
    clear ht
    go_wp2_with fail
    go_ret
    exact ⟨by rw [HV.out]; rfl, HBW.out⟩
  have dt : (t != t') = false := by simp [ht]
  by_cases hg : g0 = h0 ∧ g1 = h1
  case neg =>
    have HV := Lib.hid (sameVw_false (t := t) (t' := t') (g0 := g0) (g1 := g1) (h0 := h0) (h1 := h1) (xs := xs) (ys := ys) (Or.inr (Or.inl hg)))
    have heq : ∀ w : World, (Op.equalIn 10000 22 (.agg #[.int .i64 g0, .int .i64 g1]) (.agg #[.int .i64 h0, .int .i64 h1])).run Try.prog w = .ok false w := fun w => by rw [pair_eqn, decide_eq_false hg]
    clear hg ht
    go_wp2_with fail
    go_ret
    exact ⟨by rw [HV.out]; rfl, HBW.out⟩
  have heq : ∀ w : World, (Op.equalIn 10000 22 (.agg #[.int .i64 g0, .int .i64 g1]) (.agg #[.int .i64 h0, .int .i64 h1])).run Try.prog w = .ok true w := fun w => by rw [pair_eqn, decide_eq_true hg]
  have HG := Lib.hid hg
  have HT := Lib.hid ht
  clear hg ht
  by_cases hn : xs.length = ys.length
  case neg =>
    have HV := Lib.hid (sameVw_false (t := t) (t' := t') (g0 := g0) (g1 := g1) (h0 := h0) (h1 := h1) (xs := xs) (ys := ys) (Or.inr (Or.inr (Or.inl hn))))
    have dl : ((xs.length : Int) != (ys.length : Int)) = true := by rw [bne_iff_ne]; omega
    clear hn
    go_wp2_with fail
    go_ret
    exact ⟨by rw [HV.out]; rfl, HBW.out⟩
  have dl : ((xs.length : Int) != (ys.length : Int)) = false := by simp [hn]
  have HN := Lib.hid hn
  clear hn
  go_wp2_with fail
  have HB1 : Hid (Below W.heap.size W W) := Lib.hid (Below.refl _ _)
  go_loopw [5] (fun i wr => ∃ k : Nat, i = .int .i64 k ∧ k ≤ xs.length ∧ ((∀ j, j < k → xs.getD j default = ys.getD j default) ∧ Below W.heap.size W wr)) (fun i _ => (xs.length - intOf i).toNat)
  case atStart => exact ⟨0, rfl, by omega, fun j hj => absurd hj (Nat.not_lt_zero j), HB1.out⟩
  case round =>
    obtain ⟨k, rfl, hk, hfore, hX⟩ := hrel
    have HX := Lib.hid hX
    have HFO := Lib.hid hfore
    have hsz := hX.size
    obtain ⟨l5, c5, -⟩ := id (K1.out.call hX)
    obtain ⟨l6, c6, -⟩ := id (K2.out.call hX)
    have HBE : Hid (Below w.heap.size w wr) := Lib.hid (HBW.out.trans (hX.mono hsW))
    clear hfore
    by_cases hlt : k < xs.length
    · obtain ⟨s, hs⟩ : ∃ s, xs.getD k default = s := ⟨_, rfl⟩
      obtain ⟨r, hr⟩ : ∃ r, ys.getD k default = r := ⟨_, rfl⟩
      obtain ⟨b1, o1, rfl, hb1, q0, q1, q2, q3, q4, q5, q6, q7, q8, q9⟩ := (HA.out.below (hX.mono hsW)).get k hlt s hs
      obtain ⟨b2, o2, rfl, hb2, p0, p1, p2, p3, p4, p5, p6, p7, p8, p9⟩ := (HB.out.below (hX.mono hsW)).get k (by have := HN.out; omega) r hr
      have hki : (0 : Int) ≤ (k : Int) := by omega
      have hkl : (k : Int) < (xs.length : Int) := by omega
      have hkl2 : (k : Int) < (ys.length : Int) := by have := HN.out; omega
      have l7 : b1 < wr.heap.size := by omega
      have l8 : b2 < wr.heap.size := by omega
      by_cases he : s = r
      · have heu : ∀ W : World, (Op.equalIn 10000 136 (.agg #[.int .i64 s.x, .int .i64 s.y, .int .i64 s.owner, .int .i64 s.kind, .int .i64 s.hp, .int .i64 s.does, .int .i64 s.gx, .int .i64 s.gy, .int .i64 s.tx, .int .i64 s.ty]) (.agg #[.int .i64 r.x, .int .i64 r.y, .int .i64 r.owner, .int .i64 r.kind, .int .i64 r.hp, .int .i64 r.does, .int .i64 r.gx, .int .i64 r.gy, .int .i64 r.tx, .int .i64 r.ty])).run Try.prog W = .ok true W := fun W => by
          have := seen_eqn s r W
          rw [decide_eq_true he] at this
          exact this
        have HE : Hid (xs.getD k default = ys.getD k default) := Lib.hid (by rw [hs, hr]; exact he)
        clear hs hr hX he
        go_wp2_with fail
        go_quiet (fail)
        go_wp2_with fail
        go_roundw
        case rel => exact ⟨k + 1, by go_num, by omega, fun j hj => (by rcases Nat.lt_succ_iff_lt_or_eq.1 hj with h | h; exact HFO.out j h; rw [h]; exact HE.out), below_drewN HX.out _⟩
        case measure => simp [intOf]; omega
      · have heu : ∀ W : World, (Op.equalIn 10000 136 (.agg #[.int .i64 s.x, .int .i64 s.y, .int .i64 s.owner, .int .i64 s.kind, .int .i64 s.hp, .int .i64 s.does, .int .i64 s.gx, .int .i64 s.gy, .int .i64 s.tx, .int .i64 s.ty]) (.agg #[.int .i64 r.x, .int .i64 r.y, .int .i64 r.owner, .int .i64 r.kind, .int .i64 r.hp, .int .i64 r.does, .int .i64 r.gx, .int .i64 r.gy, .int .i64 r.tx, .int .i64 r.ty])).run Try.prog W = .ok false W := fun W => by
          have := seen_eqn s r W
          rw [decide_eq_false he] at this
          exact this
        have HV := Lib.hid (sameVw_false (t := t) (t' := t') (g0 := g0) (g1 := g1) (h0 := h0) (h1 := h1) (xs := xs) (ys := ys) (Or.inr (Or.inr (Or.inr ⟨k, by rw [hs, hr]; exact he⟩))))
        clear hs hr hX he
        go_wp2_with fail
        go_quiet (fail)
        go_wp2_with fail
        go_ret
        exact ⟨by rw [HV.out]; rfl, below_drewN HBE.out _⟩
    · obtain rfl : k = xs.length := by omega
      have HV := Lib.hid (sameVw_true (t := t) (t' := t') (g0 := g0) (g1 := g1) (h0 := h0) (h1 := h1) (xs := xs) (ys := ys) HT.out HG.out HN.out HFO.out)
      clear hX
      go_wp2_with fail
      go_ret
      exact ⟨by rw [HV.out]; rfl, HBE.out⟩

set_option maxHeartbeats 3200000 in
set_option maxRecDepth 100000 in
theorem sameview_any (t g0 g1 t' h0 h1 : Int) (xs ys : List Sn) (a b : Option Addr) (ca cb : Nat) (hl : xs.length ≤ 100000) (_hl2 : ys.length ≤ 100000) (w : World) (ha : SRow w.heap.size w a xs) (hb : SRow w.heap.size w b ys) :
    Calls Try.prog 36 #[.agg #[.int .i64 t, .int .i64 g0, .int .i64 g1, .slice a xs.length ca], .agg #[.int .i64 t', .int .i64 h0, .int .i64 h1, .slice b ys.length cb]] w fun e w' => e = .returned (.bool (sameVw t g0 g1 t' h0 h1 xs ys)) ∧ Below w.heap.size w w' := by
  obtain ⟨W, hW⟩ : ∃ W, (w.alloc (.cells #[.int .i64 t, .int .i64 g0, .int .i64 g1, .slice a xs.length ca] 61)).alloc (.cells #[.int .i64 t', .int .i64 h0, .int .i64 h1, .slice b ys.length cb] 61) = W := ⟨_, rfl⟩
  have hbW : Below w.heap.size w W := by rw [← hW]; exact ((Below.refl _ _).alloc (Nat.le_refl _) _).alloc (by simp) _
  have k1 : Blk W w.heap.size #[.int .i64 t, .int .i64 g0, .int .i64 g1, .slice a xs.length ca] := by rw [← hW]; exact (Blk.new w _ _).alloc _
  have k2 : Blk W (w.heap.size + 1) #[.int .i64 t', .int .i64 h0, .int .i64 h1, .slice b ys.length cb] := by
    rw [← hW]
    have := Blk.new (w.alloc (.cells #[.int .i64 t, .int .i64 g0, .int .i64 g1, .slice a xs.length ca] 61)) #[.int .i64 t', .int .i64 h0, .int .i64 h1, .slice b ys.length cb] 61
    simpa using this
  obtain ⟨l1, c1, -⟩ := id k1
  obtain ⟨l2, c2, -⟩ := id k2
  have hsW := hbW.size
  have HA := Lib.hid (ha.below hbW)
  have HB := Lib.hid (hb.below hbW)
  have K1 := Lib.hid k1
  have K2 := Lib.hid k2
  have HBW := Lib.hid hbW
  have hn0 : (0 : Int) ≤ (xs.length : Int) := by omega
  clear ha hb hbW k1 k2
  go_enter Try.func36, Try.ntmps36
  go_upto_region 1 with fail
  try rw [hW]
  clear hW
  by_cases ht : t = t'
  case neg =>
    have HV := Lib.hid (sameVw_false (t := t) (t' := t') (g0 := g0) (g1 := g1) (h0 := h0) (h1 := h1) (xs := xs) (ys := ys) (Or.inl ht))
    have dt : (t != t') = true := by simp [ht]
    clear ht
    go_wp2_with fail
    go_ret
    exact ⟨by rw [HV.out]; rfl, HBW.out⟩
  have dt : (t != t') = false := by simp [ht]
  by_cases hg : g0 = h0 ∧ g1 = h1
  case neg =>
    have HV := Lib.hid (sameVw_false (t := t) (t' := t') (g0 := g0) (g1 := g1) (h0 := h0) (h1 := h1) (xs := xs) (ys := ys) (Or.inr (Or.inl hg)))
    have heq : ∀ w : World, (Op.equalIn 10000 22 (.agg #[.int .i64 g0, .int .i64 g1]) (.agg #[.int .i64 h0, .int .i64 h1])).run Try.prog w = .ok false w := fun w => by rw [pair_eqn, decide_eq_false hg]
    clear hg ht
    go_wp2_with fail
    go_ret
    exact ⟨by rw [HV.out]; rfl, HBW.out⟩
  have heq : ∀ w : World, (Op.equalIn 10000 22 (.agg #[.int .i64 g0, .int .i64 g1]) (.agg #[.int .i64 h0, .int .i64 h1])).run Try.prog w = .ok true w := fun w => by rw [pair_eqn, decide_eq_true hg]
  have HG := Lib.hid hg
  have HT := Lib.hid ht
  clear hg ht
  by_cases hn : xs.length = ys.length
  case neg =>
    have HV := Lib.hid (sameVw_false (t := t) (t' := t') (g0 := g0) (g1 := g1) (h0 := h0) (h1 := h1) (xs := xs) (ys := ys) (Or.inr (Or.inr (Or.inl hn))))
    have dl : ((xs.length : Int) != (ys.length : Int)) = true := by rw [bne_iff_ne]; omega
    clear hn
    go_wp2_with fail
    go_ret
    exact ⟨by rw [HV.out]; rfl, HBW.out⟩
  have dl : ((xs.length : Int) != (ys.length : Int)) = false := by simp [hn]
  have HN := Lib.hid hn
  clear hn
  go_wp2_with fail
  have HB1 : Hid (Below W.heap.size W W) := Lib.hid (Below.refl _ _)
  go_loopw [5, 30] (fun _ i wr => ∃ k : Nat, i = .int .i64 k ∧ k ≤ xs.length ∧ ((∀ j, j < k → xs.getD j default = ys.getD j default) ∧ Below W.heap.size W wr)) (fun _ i _ => (xs.length - intOf i).toNat)
  case atStart => exact ⟨0, rfl, by omega, fun j hj => absurd hj (Nat.not_lt_zero j), HB1.out⟩
  case round =>
    obtain ⟨k, rfl, hk, hfore, hX⟩ := hrel
    have HX := Lib.hid hX
    have HFO := Lib.hid hfore
    have hsz := hX.size
    obtain ⟨l5, c5, -⟩ := id (K1.out.call hX)
    obtain ⟨l6, c6, -⟩ := id (K2.out.call hX)
    have HBE : Hid (Below w.heap.size w wr) := Lib.hid (HBW.out.trans (hX.mono hsW))
    clear hfore
    by_cases hlt : k < xs.length
    · obtain ⟨s, hs⟩ : ∃ s, xs.getD k default = s := ⟨_, rfl⟩
      obtain ⟨r, hr⟩ : ∃ r, ys.getD k default = r := ⟨_, rfl⟩
      obtain ⟨b1, o1, rfl, hb1, q0, q1, q2, q3, q4, q5, q6, q7, q8, q9⟩ := (HA.out.below (hX.mono hsW)).get k hlt s hs
      obtain ⟨b2, o2, rfl, hb2, p0, p1, p2, p3, p4, p5, p6, p7, p8, p9⟩ := (HB.out.below (hX.mono hsW)).get k (by have := HN.out; omega) r hr
      have hki : (0 : Int) ≤ (k : Int) := by omega
      have hkl : (k : Int) < (xs.length : Int) := by omega
      have hkl2 : (k : Int) < (ys.length : Int) := by have := HN.out; omega
      have l7 : b1 < wr.heap.size := by omega
      have l8 : b2 < wr.heap.size := by omega
      by_cases he : s = r
      · have heu : ∀ W : World, (Op.equalIn 10000 136 (.agg #[.int .i64 s.x, .int .i64 s.y, .int .i64 s.owner, .int .i64 s.kind, .int .i64 s.hp, .int .i64 s.does, .int .i64 s.gx, .int .i64 s.gy, .int .i64 s.tx, .int .i64 s.ty]) (.agg #[.int .i64 r.x, .int .i64 r.y, .int .i64 r.owner, .int .i64 r.kind, .int .i64 r.hp, .int .i64 r.does, .int .i64 r.gx, .int .i64 r.gy, .int .i64 r.tx, .int .i64 r.ty])).run Try.prog W = .ok true W := fun W => by
          have := seen_eqn s r W
          rw [decide_eq_true he] at this
          exact this
        have HE : Hid (xs.getD k default = ys.getD k default) := Lib.hid (by rw [hs, hr]; exact he)
        clear hs hr hX he
        go_wp2_with fail
        go_quiet (fail)
        go_wp2_with fail
        go_roundw
        case rel => exact ⟨k + 1, by go_num, by omega, fun j hj => (by rcases Nat.lt_succ_iff_lt_or_eq.1 hj with h | h; exact HFO.out j h; rw [h]; exact HE.out), below_drewN HX.out _⟩
        case measure => simp [intOf]; omega
      · have heu : ∀ W : World, (Op.equalIn 10000 136 (.agg #[.int .i64 s.x, .int .i64 s.y, .int .i64 s.owner, .int .i64 s.kind, .int .i64 s.hp, .int .i64 s.does, .int .i64 s.gx, .int .i64 s.gy, .int .i64 s.tx, .int .i64 s.ty]) (.agg #[.int .i64 r.x, .int .i64 r.y, .int .i64 r.owner, .int .i64 r.kind, .int .i64 r.hp, .int .i64 r.does, .int .i64 r.gx, .int .i64 r.gy, .int .i64 r.tx, .int .i64 r.ty])).run Try.prog W = .ok false W := fun W => by
          have := seen_eqn s r W
          rw [decide_eq_false he] at this
          exact this
        have HV := Lib.hid (sameVw_false (t := t) (t' := t') (g0 := g0) (g1 := g1) (h0 := h0) (h1 := h1) (xs := xs) (ys := ys) (Or.inr (Or.inr (Or.inr ⟨k, by rw [hs, hr]; exact he⟩))))
        clear hs hr hX he
        go_wp2_with fail
        go_quiet (fail)
        go_wp2_with fail
        go_ret
        exact ⟨by rw [HV.out]; rfl, below_drewN HBE.out _⟩
    · obtain rfl : k = xs.length := by omega
      have HV := Lib.hid (sameVw_true (t := t) (t' := t') (g0 := g0) (g1 := g1) (h0 := h0) (h1 := h1) (xs := xs) (ys := ys) HT.out HG.out HN.out HFO.out)
      clear hX
      go_wp2_with fail
      go_ret
      exact ⟨by rw [HV.out]; rfl, HBE.out⟩
end Go.Proofs.Ytlfljlhppigejab
