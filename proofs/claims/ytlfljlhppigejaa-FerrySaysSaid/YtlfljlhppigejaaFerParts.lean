/-
  Parts of the walk of names.tick. (Printed by gen_fertick.py.)
-/
import Derived.Test.YtlfljlhppigejaaPackFerC
import Derived.Test.YtlfljlhppigejaaPackFerA
import Derived.Test.YtlfljlhppigejaaRange
import Derived.Test.YtlfljlhppigejaaOwnAll
import Derived.Test.YtlfljlhppigejaaRefStepE
namespace Go.Proofs.Ytlfljlhppigejaa
open Go.RowKit

/-- A map lies in M. -/
def MapAt (w : World) (M : Nat) : Prop := ∃ es c, w.heap[M]? = some (.map es c)
theorem NM.at_ {w : World} {M n sz : Nat} {F : Int → Option Int} (h : NM w M n sz F) : MapAt w M := by
  obtain ⟨D, ⟨es, clock, h1, -⟩, -⟩ := h
  exact ⟨es, clock, h1⟩
theorem MapAt.ne {w : World} {M b o : Nat} {v : Value} (h : MapAt w M) (hc : w.cell? ⟨b, o, none⟩ = some v) : b ≠ M := by
  rintro rfl
  obtain ⟨es, c, h1⟩ := h
  simp [World.cell?, h1] at hc
theorem MapAt.keep {w w' : World} {M b o : Nat} {v : Value} (h : MapAt w M) (k : Kp (fun b => b = M) w w') (hb : b < w.heap.size) (hc : w.cell? ⟨b, o, none⟩ = some v) : w'.cell? ⟨b, o, none⟩ = some v :=
  (k.cell b o hb (h.ne hc)).trans hc
theorem Row.keepM {B n M : Nat} {w w' : World} {a : Option Addr} {f : Nat → Value} (h : Row B w a n f) (hB : B ≤ w.heap.size) (hm : MapAt w M) (k : Kp (fun b => b = M) w w') : Row B w' a n f := fun i hi => by
  obtain ⟨b, o, h1, h2, h3⟩ := h i hi
  exact ⟨b, o, h1, h2, hm.keep k (by omega) h3⟩
theorem URow.keepM {B M : Nat} {w w' : World} {a : Option Addr} {us : List U} (h : URow false B w a us) (hB : B ≤ w.heap.size) (hm : MapAt w M) (k : Kp (fun b => b = M) w w') : URow false B w' a us := fun i hi => by
  obtain ⟨b, o, h1, h2, h3⟩ := h i hi
  refine ⟨b, o, h1, h2, fun j hj => ?_⟩
  have e : (cellsOf false (us.getD i zeroU))[j]? = some ((cellsOf false (us.getD i zeroU))[j]'(by show j < 10; exact hj)) := List.getElem?_eq_getElem _
  rw [e]
  exact hm.keep k (by omega) ((h3 j hj).trans e)
theorem CRow.keepM {B M : Nat} {w w' : World} {a : Option Addr} {cs : List Cm} (h : CRow B w a cs) (hB : B ≤ w.heap.size) (hm : MapAt w M) (k : Kp (fun b => b = M) w w') : CRow B w' a cs := fun i hi => by
  obtain ⟨b, o, h1, h2, h3⟩ := h i hi
  refine ⟨b, o, h1, h2, fun j hj => ?_⟩
  have e : (cellsC (cs.getD i zeroC))[j]? = some ((cellsC (cs.getD i zeroC))[j]'(by show j < 7; exact hj)) := List.getElem?_eq_getElem _
  rw [e]
  exact hm.keep k (by omega) ((h3 j hj).trans e)
theorem CRow.take {B : Nat} {w : World} {a : Option Addr} {cs : List Cm} (h : CRow B w a cs) (k : Nat) : CRow B w a (cs.take k) := fun i hi => by
  rw [List.length_take] at hi
  obtain ⟨b, o, h1, h2, h3⟩ := h i (by omega)
  refine ⟨b, o, h1, h2, fun j hj => ?_⟩
  rw [h3 j hj]
  have : (cs.take k).getD i zeroC = cs.getD i zeroC := by simp [List.getD, show i < k by omega]
  rw [this]
/-- The map alone has turned, and holds no more than so much. -/
def TickI (W : World) (M N : Nat) (w : World) : Prop := Kp (fun b => b = M) W w ∧ ∃ n sz F, n ≤ N ∧ NM w M n sz F
theorem TickI.call {W w w' : World} {M N : Nat} (h : TickI W M N w) (hb : Below w.heap.size w w') : TickI W M N w' :=
  ⟨h.1.then_ hb, let ⟨n, sz, F, h1, h2⟩ := h.2; ⟨n, sz, F, h1, h2.call hb⟩⟩
theorem TickI.le {W w : World} {M N N' : Nat} (h : TickI W M N w) (hn : N ≤ N') : TickI W M N' w :=
  ⟨h.1, let ⟨n, sz, F, h1, h2⟩ := h.2; ⟨n, sz, F, by omega, h2⟩⟩
theorem TickI.at_ {W w : World} {M N : Nat} (h : TickI W M N w) : MapAt w M := let ⟨_, _, _, _, h2⟩ := h.2; h2.at_
theorem TickI.lt {W w : World} {M N : Nat} (h : TickI W M N w) : M < w.heap.size := let ⟨_, _, _, _, h2⟩ := h.2; h2.lt
theorem TickI.put {W w : World} {M N : Nat} (h : TickI W M N w) (hN : N ≤ 100000) (j : Int) (hj : (Lit.int .i64 j).wf = true) (v : Int) :
    ∃ w', (Instr.mapUpdate 203 (.map (some M)) (.int .i64 j) (.int .i64 v)).run Try.prog w = .ok () w' ∧ TickI W M (N + 1) w' ∧ Kp (fun b => b = M) w w' := by
  obtain ⟨n, sz, F, h1, h2⟩ := h.2
  obtain ⟨w', sz', r, m, t⟩ := nm_put h2 (by omega) j hj v
  exact ⟨w', r, ⟨h.1.trans (Kp.turned t) (fun _ _ x => x), n + 1, sz', _, by omega, m⟩, Kp.turned t⟩
theorem TickI.above {W w w' : World} {M N : Nat} (h : TickI W M N w) (hb : Below W.heap.size w w') (hM : M < W.heap.size) : TickI W M N w' :=
  ⟨h.1.trans (⟨hb.os, hb.tape, hb.output, hb.size, fun k hk hx => hb.block k (Classical.byContradiction fun e => hx (Nat.le_of_not_lt e))⟩ : Kp (fun b => W.heap.size ≤ b) w w') (fun b hb2 hx => absurd hx (Nat.not_le.2 hb2)), let ⟨n, sz, F, h1, h2⟩ := h.2; ⟨n, sz, F, h1, h2.blk (hb.block M hM)⟩⟩
/-- Who is here. -/
def HereI (w : World) (M N : Nat) : Prop := ∃ (n sz : Nat) (S : Int → Bool), n ≤ N ∧ MapOf Try.prog 3 (Value.int .i64) (fun a => (Lit.int .i64 a).wf = true) w M n sz (fun j => if S j = true then some (.bool true) else none)
theorem HereI.call {w w' : World} {M N : Nat} (h : HereI w M N) (hb : Below w.heap.size w w') : HereI w' M N := let ⟨n, sz, F, h1, h2⟩ := h; ⟨n, sz, F, h1, h2.call hb⟩
theorem HereI.kp {w w' : World} {M N : Nat} {X : Nat → Prop} (h : HereI w M N) (k : Kp X w w') (hM : ¬ X M) : HereI w' M N := let ⟨n, sz, F, h1, h2⟩ := h; ⟨n, sz, F, h1, h2.blk (k.block M h2.lt hM)⟩
theorem HereI.at_ {w : World} {M N : Nat} (h : HereI w M N) : MapAt w M := by
  obtain ⟨n, sz, S, -, D, ⟨es, clock, h1, -⟩, -⟩ := h
  exact ⟨es, clock, h1⟩
theorem HereI.lt {w : World} {M N : Nat} (h : HereI w M N) : M < w.heap.size := let ⟨_, _, _, _, h2⟩ := h; h2.lt
theorem HereI.put {w : World} {M N : Nat} (h : HereI w M N) (hN : N ≤ 100000) (j : Int) (hj : (Lit.int .i64 j).wf = true) :
    ∃ w', (Instr.mapUpdate 183 (.map (some M)) (.int .i64 j) (.bool true)).run Try.prog w = .ok () w' ∧ HereI w' M (N + 1) ∧ Kp (fun b => b = M) w w' := by
  obtain ⟨n, sz, S, h1, h2⟩ := h
  obtain ⟨w', r, m, t⟩ := h2.put (intKeys (by kernel_rfl)) (t := 183) (e := 4) (by kernel_rfl) (by unfold maxLen; omega) j hj (.bool true)
  refine ⟨w', r, ⟨n + 1, _, fun i => if i = j then true else S i, by omega, m.fn (fun i => ?_) rfl⟩, Kp.turned t⟩
  by_cases e : i = j
  · subst e; simp
  · simp [e]
theorem HereI.get {w : World} {M N : Nat} (h : HereI w M N) (j : Int) (hj : (Lit.int .i64 j).wf = true) : ∃ b : Bool, (Instr.lookup 183 (.map (some M)) (.int .i64 j) false).run Try.prog w = .ok (.bool b) w := by
  obtain ⟨n, sz, S, h1, h2⟩ := h
  have := h2.get (intKeys (by kernel_rfl)) (t := 183) (e := 4) (by kernel_rfl) (z := .bool false) (by kernel_rfl) j hj
  refine ⟨S j, this.trans ?_⟩
  cases S j <;> rfl
theorem Kp.out {X : Nat → Prop} {w w' : World} {b : Nat} {z : Array Value} (k : Kp X w w') (h : Blk w b z) (hb : ¬ X b) : Blk w' b z := h.kp k hb
/-- A step that is played. -/
theorem step_ok (g : G) (fa ua la : Option Addr) (cf cu cl : Nat) (hnew : g.new = false) (hcf : g.free.length ≤ 100000) (hcu : g.us.length ≤ 100000) (cs : List Cm) (hcl : cs.length ≤ 100000) (h0 : stepFault g cs = 0) (w : World)
    (hf : Row w.heap.size w fa g.free.length (fun k => .int .i64 (g.free.getD k 0))) (hu : URow false w.heap.size w ua g.us) (hc : CRow w.heap.size w la cs) (hfit : ∀ n ∈ g.free, Fits64 n) :
    Calls Try.prog 56 #[.agg #[.int .i64 g.tick, .int .i64 g.g0, .int .i64 g.g1, .int .i64 g.next, .slice fa g.free.length cf, .slice ua g.us.length cu], .slice la cs.length cl] w fun e w' => ∃ fx fc ux uc ba bc, e = .returned (.tuple #[.agg #[.int .i64 (stepE g cs).1.tick, .int .i64 (stepE g cs).1.g0, .int .i64 (stepE g cs).1.g1, .int .i64 (stepE g cs).1.next, .slice fx (stepE g cs).1.free.length fc, .slice ux (stepE g cs).1.us.length uc], .slice ba (stepE g cs).2.length bc, .nilIface]) ∧
      Row w'.heap.size w' fx (stepE g cs).1.free.length (fun k => .int .i64 ((stepE g cs).1.free.getD k 0)) ∧ URow false w'.heap.size w' ux (stepE g cs).1.us ∧ w'.ownsRow w.heap.size 3 1 (.slice ba (stepE g cs).2.length bc) (stepE g cs).2.length (intCells (stepE g cs).2) ∧ Below w.heap.size w w' ∧ (∀ b o, fx = some ⟨b, o, none⟩ → w.heap.size ≤ b) ∧ (∀ b o, ux = some ⟨b, o, none⟩ → w.heap.size ≤ b) := by
  refine (step_any g fa ua la cf cu cl hnew (by omega) (by omega) cs (by omega) w hf hu hc hfit).mono ?_
  rintro e w' ⟨hb, ⟨hne, -⟩ | ⟨-, fv, ev, bv, rfl, o1, o2, o3⟩⟩
  · exact absurd h0 hne
  · obtain ⟨a, c, rfl, r1⟩ := ints_at rfl o1
    obtain ⟨a2, c2, rfl, -, r2, -⟩ := URow.of_own o2
    obtain ⟨a3, c3, rfl⟩ := own_slice o3
    exact ⟨a, c, a2, c2, a3, c3, rfl, r1, r2, o3, hb, fun b o e => (World.ownsRow.lt o1 b (by rw [e]; rfl)).1, fun b o e => (World.ownsRow.lt o2 b (by rw [e]; rfl)).1⟩
theorem infoOrd : (Try.prog.info? 73).map (fun i => (i.zero, i.size, i.bytes)) = some (some (.agg #[.int .i64 0, .int .i64 0, .int .i64 0, .int .i64 0, .int .i64 0, .int .i64 0]), 6, 48) := by kernel_rfl
theorem push_order {w : World} {base : Nat} {v : Value} {n : Nat} {xs : List Value} (own : w.ownsRow base 73 6 v n xs) (hn : n ≤ 100000) (hb : base ≤ w.heap.size) (a0 a1 a2 a3 a4 a5 : Int) :
    ∃ g cap w' ys, (Builtin.append_ #[66, 66] 66 #[v, .slice (some ⟨w.heap.size, 0, none⟩) 1 1]).run Try.prog (w.alloc (.cells #[.int .i64 a0, .int .i64 a1, .int .i64 a2, .int .i64 a3, .int .i64 a4, .int .i64 a5] 73)) = .ok (.slice (some ⟨g, 0, none⟩) (n + 1) cap) w' ∧
      w'.ownsRow base 73 6 (.slice (some ⟨g, 0, none⟩) (n + 1) cap) (n + 1) ys ∧ Below base w w' := by
  obtain ⟨i1, hj0, hj1, hj2, hj3⟩ := info_parts infoOrd
  have hbz : Below w.heap.size w (w.alloc (.cells #[.int .i64 a0, .int .i64 a1, .int .i64 a2, .int .i64 a3, .int .i64 a4, .int .i64 a5] 73)) := (Below.refl _ _).alloc (Nat.le_refl _) _
  have oB := own_kp own (kp_of hbz (fun _ => False)) (fun _ _ x => x)
  obtain ⟨g2, cap, w5, r5, own5, grow5, -, -⟩ := run_append_lies (P := Try.prog) (w.alloc (.cells #[.int .i64 a0, .int .i64 a1, .int .i64 a2, .int .i64 a3, .int .i64 a4, .int .i64 a5] 73)) 66 66 base 73 i1 _ 6 48 Try.underlying66 hj0 hj1 hj2 hj3 rfl (by omega) v n xs oB ⟨w.heap.size, 0, none⟩ 1 1 (#[.int .i64 a0, .int .i64 a1, .int .i64 a2, .int .i64 a3, .int .i64 a4, .int .i64 a5] : Array Value).toList rfl
    (World.news_of_block (heap_alloc_new w _)) (by intro u hu; simp at hu; rcases hu with rfl | rfl | rfl | rfl | rfl | rfl <;> rfl) (by omega) (by unfold maxLen; omega) (by omega) (Nat.le_trans hb hbz.size) (w.heap.size + 1) (by simp)
  refine ⟨g2, cap, w5, _, r5, own5, ?_⟩
  have k : Kp (fun b => base ≤ b) w w5 := ((kp_of hbz _).trans (Kp.grown grow5) (fun k _ hk => (World.ownsRow.lt oB k hk.symm).1))
  exact k.below (fun _ h => h) hb
/-- 'delete(m, k)' within a range. -/
theorem RgOf.drop {P : Program} {k t e : TypeId} {w : World} {b r n cnt : Nat} {f : Int → Option Value} {lf : Int → Bool} (h : RgOf P k w b r n f lf cnt) (hk : P.underlying k = some (.int .i64)) (ht : P.underlying t = some (.map k e)) (i : Int) (hi : okI i) (ty : TypeId) :
    ∃ w' cnt', (Builtin.delete_ #[t, k] ty #[.map (some b), .int .i64 i]).run P w = .ok (.tuple #[]) w' ∧ RgOf P k w' b r n (fun j => if j = i then none else f j) (fun j => lf j && !decide (j = i)) cnt' ∧ cnt' ≤ cnt ∧ w.mapTurned w' b := by
  obtain ⟨D, left, h1, h2, h3⟩ := h
  obtain ⟨kl, hkl⟩ := (intKeys hk).lit i hi
  obtain ⟨w', cnt', hrun, hr, hle, hturn⟩ := h1.drop (Maps.int_keyed hk) ht hkl ty
  refine ⟨w', cnt', hrun, ⟨_, _, hr, fun j kj hj hkj => ?_, fun j kj hj hkj => ?_⟩, hle, hturn⟩
  · by_cases hji : j = i
    · subst hji
      obtain rfl : kj = kl := Option.some.inj (hkj.symm.trans hkl)
      dsimp only
      rw [if_pos rfl]
      exact ⟨Maps.has_del_same, fun z => Maps.atKey_del_same _⟩
    · dsimp only
      rw [if_neg hji]
      have hne : kj ≠ kl := fun e => hji ((intKeys hk).inj _ _ ((intKeys hk).keyed.inj (e ▸ hkj) hkl))
      rw [Maps.has_del_other hne, (h2 j kj hj hkj).1]
      refine ⟨rfl, fun z => ?_⟩
      rw [Maps.atKey_del_other hne]
      exact (h2 j kj hj hkj).2 z
  · dsimp only
    rw [h3 j kj hj hkj]
    have e1 : kj = .int .i64 j := Option.some.inj (hkj.symm.trans (Maps.keyOf_int_mk hk hj))
    have e2 : kl = .int .i64 i := Option.some.inj (hkl.symm.trans (Maps.keyOf_int_mk hk hi))
    subst e1 e2
    by_cases e : j = i
    · subst e
      simp [Lit.sameKey]
    · have : (Lit.int .i64 j).sameKey (.int .i64 i) = false := Maps.sameKey_ne (fun h => e (by cases h; rfl))
      rw [this]
      simp [e]
theorem TickI.kp {W w w' : World} {M N : Nat} {X : Nat → Prop} (h : TickI W M N w) (k : Kp X w w') (hX : ∀ b, X b → W.heap.size ≤ b) (hM : M < W.heap.size) : TickI W M N w' :=
  ⟨h.1.trans k (fun b hb hx => absurd (hX b hx) (Nat.not_le.2 hb)), let ⟨n, sz, F, h1, h2⟩ := h.2; ⟨n, sz, F, h1, h2.blk (k.block M h2.lt (fun e => absurd (hX M e) (Nat.not_le.2 hM)))⟩⟩
theorem Row.keep2 {B n M R : Nat} {w w' : World} {a : Option Addr} {f : Nat → Value} (h : Row B w a n f) (hB : B ≤ w.heap.size) (hR : B ≤ R) (hm : MapAt w M) (k : Kp (fun b => b = M ∨ b = R) w w') : Row B w' a n f := fun i hi => by
  obtain ⟨b, o, h1, h2, h3⟩ := h i hi
  exact ⟨b, o, h1, h2, (k.cell b _ (by omega) (fun e => by rcases e with e | e; exact hm.ne h3 e; omega)).trans h3⟩
theorem URow.keep2 {B M R : Nat} {w w' : World} {a : Option Addr} {us : List U} (h : URow false B w a us) (hB : B ≤ w.heap.size) (hR : B ≤ R) (hm : MapAt w M) (k : Kp (fun b => b = M ∨ b = R) w w') : URow false B w' a us := fun i hi => by
  obtain ⟨b, o, h1, h2, h3⟩ := h i hi
  refine ⟨b, o, h1, h2, fun j hj => ?_⟩
  have e : (cellsOf false (us.getD i zeroU))[j]? = some ((cellsOf false (us.getD i zeroU))[j]'(by show j < 10; exact hj)) := List.getElem?_eq_getElem _
  rw [e]
  have h4 := (h3 j hj).trans e
  exact (k.cell b _ (by omega) (fun e => by rcases e with e | e; exact hm.ne h4 e; omega)).trans h4
theorem Row.keepP {B n p : Nat} {w w' : World} {a : Option Addr} {f : Nat → Value} (h : Row B w a n f) (hB : B ≤ w.heap.size) (k : Kp (fun b => b = p) w w') (hp : ∀ b o, a = some ⟨b, o, none⟩ → b ≠ p) : Row B w' a n f := fun i hi => by
  obtain ⟨b, o, h1, h2, h3⟩ := h i hi
  exact ⟨b, o, h1, h2, (k.cell b _ (by omega) (hp b o h1)).trans h3⟩
theorem URow.keepP {B p : Nat} {w w' : World} {a : Option Addr} {us : List U} (h : URow false B w a us) (hB : B ≤ w.heap.size) (k : Kp (fun b => b = p) w w') (hp : ∀ b o, a = some ⟨b, o, none⟩ → b ≠ p) : URow false B w' a us := fun i hi => by
  obtain ⟨b, o, h1, h2, h3⟩ := h i hi
  exact ⟨b, o, h1, h2, fun j hj => (k.cell b _ (by omega) (hp b o h1)).trans (h3 j hj)⟩
theorem RgOf.at_ {P : Program} {k : TypeId} {w : World} {b r n cnt : Nat} {f : Int → Option Value} {lf : Int → Bool} (h : RgOf P k w b r n f lf cnt) : MapAt w b := by
  obtain ⟨sz, D, ⟨es, clock, h1, -⟩, -⟩ := h.map
  exact ⟨es, clock, h1⟩
theorem ret_cell4 {P : Program} {fn : Func} {q s t u : Tmp} {ty : TypeId} (h : fn.results = #[.tmp q, .cell s ty, .tmp t, .tmp u]) {tmps : Array Value} {W : World} {p : Nat} {c : Array Value} {d : TypeDesc} {v0 v1 v2 : Value} (h0 : tmps.getD q undef = v0) (hs : tmps.getD s undef = .pointer (some ⟨p, 0, none⟩)) (h1 : tmps.getD t undef = v1) (h2 : tmps.getD u undef = v2)
    (hk : Blk W p c) (hu : P.underlying ty = some d) (hd : d.isRow = true) (hi : (P.info? ty).map (·.size) = some c.size) : (results fn tmps).run P W = .ok (.tuple #[v0, .agg c, v1, v2]) W := by
  have hr : W.rangeAt p 0 c.toList := fun j x hx => by
    rw [Nat.zero_add, hk.cell j]
    simpa using hx
  have hp' : tmps[s]?.getD undef = .pointer (some ⟨p, 0, none⟩) := by simpa using hs
  have h0' : tmps[q]?.getD undef = v0 := by simpa using h0
  have h1' : tmps[t]?.getD undef = v1 := by simpa using h1
  have h2' : tmps[u]?.getD undef = v2 := by simpa using h2
  have h3 := run_loadVar_mid W p 0 ty c.toList d hr hu hd (by simpa using hi)
  simp [results, h, hp', h0', h1', h2', asAddr, h3, Sem.run_bind, Result.andThen]
/-- 'delete(m, k)', at the list. -/
theorem list_delete {P : Program} {w : World} {ops : Array Oper} {rest : List Oper} {o : Oper} {a : Act} {Q : Exit → Act → World → Prop} (hg : o.guard = none) (m x : Operand) (t k : TypeId) (hop : o.op = Op.call { callee := Callee.builtin Builtin.delete, args := #[m, x], argTypes := #[t, k] })
    (hk : P.underlying k = some (.int .i64)) (e : TypeId) (ht : P.underlying t = some (.map k e)) (b r n cnt : Nat) (f : Int → Option Value) (lf : Int → Bool) (i : Int) (hi : okI i)
    (hm : a.eval m = .map (some b)) (hx : a.eval x = .int .i64 i) (h : RgOf P k w b r n f lf cnt)
    (hK : ∀ w' cnt', RgOf P k w' b r n (fun j => if j = i then none else f j) (fun j => lf j && !decide (j = i)) cnt' → cnt' ≤ cnt → w.mapTurned w' b → wpList P ops Q rest (a.put o.dst (.tuple #[])) w') :
    wpList P ops Q (o :: rest) a w := by
  refine wpList_plain hg fun K' hK' => ?_
  obtain ⟨w', cnt', hrun, r1, r2, r3⟩ := h.drop hk ht i hi o.type
  unfold Oper.wp
  simp [execOp, hop, resolve, invoke, builtin, hm, hx, hrun, Result.andThen]
  exact hK' _ _ (hK w' cnt' r1 r2 r3)
end Go.Proofs.Ytlfljlhppigejaa
