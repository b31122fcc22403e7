/-
  The walk of elder.own.
-/
import Derived.Test.YtlfljlhppigejaaElderCommand
namespace Go.Proofs.Ytlfljlhppigejaa
open Go.RowKit

/-- append(nil, s...): a row of one's own. -/
theorem run_copy_of {P : Program} (w : World) (t ty e : TypeId) (i : TypeInfo) (z : Value) (size bytes : Nat) (ht : P.underlying t = some (.slice e)) (hi : P.info? e = some i) (hz : i.zero = some z)
    (hsize : i.size = size) (hby : i.bytes = bytes) (hzs : z.cells.size = size) (hsz : 0 < size) (a : Option Addr) (m c : Nat) (news : List Value) (hl : news.length = m * size)
    (hnews : 0 < m → ∃ b o, a = some ⟨b, o, none⟩ ∧ ∀ j, j < m * size → w.cell? ⟨b, o + j, none⟩ = news[j]?) (h1 : ∀ u ∈ news, u.oneCell' = true) (h63 : m ≤ maxLen) (hbytes : m * bytes ≤ 140737488355328) :
    ∃ v' w', (Builtin.append_ #[t, t] ty #[.slice none 0 0, .slice a m c]).run P w = .ok v' w' ∧ w'.ownsRow w.heap.size e size v' m news ∧ Below w.heap.size w w' ∧ (v'.ownBlock = none ∨ v'.ownBlock = some w.heap.size) := by
  have hb : ∀ {w' : World}, w.grownBy w' none → Below w.heap.size w w' := fun h => ⟨h.os, h.tape, h.output, h.size, fun k hk => h.block k hk (by simp)⟩
  by_cases hm : 0 < m
  · obtain ⟨b, o, rfl, hc⟩ := hnews hm
    obtain ⟨v', w', h2, h3, h4, -, h5⟩ := run_append_own_at (P := P) w w.heap.size t ty e i z size bytes ht hi hz hsize hby hzs hsz (.slice none 0 0) 0 [] (World.ownsRow_nil w w.heap.size e size) ⟨b, o, none⟩ m c news hl (fun j u hj => by
      have hjl := (List.getElem?_eq_some_iff.1 hj).1
      rw [addr_add, hc j (by omega)]
      exact hj) h1 (by omega) (by simpa using hbytes) (Nat.le_refl _)
    rw [Nat.zero_add, List.nil_append] at h3
    exact ⟨v', w', h2, h3, hb h4, h5⟩
  · obtain rfl : m = 0 := by omega
    have hn : news = [] := List.eq_nil_of_length_eq_zero (by simpa using hl)
    subst hn
    refine ⟨.slice none 0 0, w, ?_, World.ownsRow_nil w w.heap.size e size, Below.refl _ _, Or.inl rfl⟩
    cases a <;> simp [Builtin.append_, run_underlying ht, sizeOf, typeInfo, hi, Builtin.lenOf, Builtin.firstCells, loadCells, loadCellsFrom]
theorem own_base {w : World} {B B' e s n : Nat} {v : Value} {xs : List Value} (h : w.ownsRow B e s v n xs) (hb : B' ≤ B) : w.ownsRow B' e s v n xs := by
  refine ⟨h.1, ?_⟩
  rcases h.2 with h1 | ⟨g, c, cur, h1, h2, h3⟩
  · exact Or.inl h1
  · exact Or.inr ⟨g, c, cur, h1, Nat.le_trans hb h2, h3⟩
theorem own_slice {w : World} {B e s n : Nat} {v : Value} {xs : List Value} (h : w.ownsRow B e s v n xs) : ∃ a c, v = .slice a n c := by
  rcases h.2 with ⟨h1, h2⟩ | ⟨g, c, cur, h1, -⟩
  · exact ⟨none, 0, by rw [h1, h2]⟩
  · exact ⟨_, c, h1⟩
theorem list_run_append {P : Program} {ops : Array Oper} {rest : List Oper} {o : Oper} {a : Act} {w : World} {Q : Exit → Act → World → Prop} (hgd : o.guard = none) (s x : Operand) (t ty : TypeId)
    (ho : o.op = .call { callee := .builtin .append, args := #[s, x], argTypes := #[t, t] }) (hty : o.type = ty) {u v v' : Value} {w' : World} (hs : a.eval s = u) (hx : a.eval x = v)
    (hr : (Builtin.append_ #[t, t] ty #[u, v]).run P w = .ok v' w') (h : wpList P ops Q rest (a.put o.dst v') w') : wpList P ops Q (o :: rest) a w := by
  refine wpList_plain hgd fun K hK => ?_
  subst hty
  unfold Oper.wp execOp
  simp only [ho, resolve, invoke, builtin, Sem.run_bind, Sem.run_pure, Result.andThen_ok, List.map_toArray, List.map_cons, List.map_nil, hs, hx, hr]
  exact hK _ _ h
/-- What a call hands back that has a row in a variable of its own. -/
theorem ret_cell {P : Program} {fn : Func} {s : Tmp} {ty : TypeId} (h : fn.results = #[.cell s ty]) {tmps : Array Value} {W : World} {p : Nat} {c : Array Value} {d : TypeDesc} (hs : tmps.getD s undef = .pointer (some ⟨p, 0, none⟩))
    (hk : Blk W p c) (hu : P.underlying ty = some d) (hd : d.isRow = true) (hi : (P.info? ty).map (·.size) = some c.size) : (results fn tmps).run P W = .ok (.agg c) W := by
  have hr : W.rangeAt p 0 c.toList := fun j x hx => by
    rw [Nat.zero_add, hk.cell j]
    simpa using hx
  have hp' : tmps[s]?.getD undef = .pointer (some ⟨p, 0, none⟩) := by simpa using hs
  have h2 := run_loadVar_mid W p 0 ty c.toList d hr hu hd (by simpa using hi)
  simp [results, h, hp', asAddr, h2]

theorem Blk.store6 {w : World} {S : Nat} {c : Array Value} (h : Blk w S c) (hc : c.size = 6) (v0 v1 v2 v3 v4 v5 : Value) :
    Blk ((((((w.setCell ⟨S, 0, none⟩ v0).setCell ⟨S, 1, none⟩ v1).setCell ⟨S, 2, none⟩ v2).setCell ⟨S, 3, none⟩ v3).setCell ⟨S, 4, none⟩ v4).setCell ⟨S, 5, none⟩ v5) S #[v0, v1, v2, v3, v4, v5] := by
  obtain ⟨l⟩ := c
  match l, hc with
  | [a0, a1, a2, a3, a4, a5], _ =>
    have := (((((h.store v0 (i := 0) (by simp)).store v1 (i := 1) (by simp)).store v2 (i := 2) (by simp)).store v3 (i := 3) (by simp)).store v4 (i := 4) (by simp)).store v5 (i := 5) (by simp)
    simpa using this
theorem infoElder : (Try.prog.info? 90).map (·.size) = some 6 := by kernel_rfl

def OwnEnd (w : World) (tick g0 g1 next : Int) (free : List Int) (us : List U) (e : Ending) (w' : World) : Prop :=
  ∃ fv ev, e = .returned (.agg #[.int .i64 tick, .int .i64 g0, .int .i64 g1, .int .i64 next, fv, ev]) ∧ Below w.heap.size w w' ∧ w'.ownsRow w.heap.size 3 1 fv free.length (intCells free) ∧ w'.ownsRow w.heap.size 179 10 ev us.length (cellsAll us) ∧ ∀ b, fv.ownBlock = some b → ev.ownBlock ≠ some b

set_option maxHeartbeats 1600000 in
set_option maxRecDepth 100000 in
theorem own_any (tick g0 g1 next : Int) (free : List Int) (fa : Option Addr) (nf cf : Nat) (hnf : free.length = nf) (hf : nf ≤ 100000) (us : List U) (ua : Option Addr) (nu cu : Nat) (hnu : us.length = nu) (hu : nu ≤ 100000) (w : World)
    (hrf : Row w.heap.size w fa nf (fun k => .int .i64 (free.getD k 0))) (hru : URow false w.heap.size w ua us) :
    Calls Try.prog 116 #[.agg #[.int .i64 tick, .int .i64 g0, .int .i64 g1, .int .i64 next, .slice fa nf cf, .slice ua nu cu]] w (OwnEnd w tick g0 g1 next free us) := by
  subst hnf
  subst hnu
  obtain ⟨W, hW⟩ : ∃ W, (w.alloc (.cells #[.int .i64 tick, .int .i64 g0, .int .i64 g1, .int .i64 next, .slice fa free.length cf, .slice ua us.length cu] 90)).alloc (.cells #[.int .i64 0, .int .i64 0, .int .i64 0, .int .i64 0, .slice none 0 0, .slice none 0 0] 90) = W := ⟨_, rfl⟩
  have hbW : Below w.heap.size w W := by rw [← hW]; exact ((Below.refl _ _).alloc (Nat.le_refl _) _).alloc (by simp) _
  have l2W : w.heap.size + 1 < W.heap.size := by rw [← hW]; simp
  have k1 : Blk W w.heap.size #[.int .i64 tick, .int .i64 g0, .int .i64 g1, .int .i64 next, .slice fa free.length cf, .slice ua us.length cu] := by rw [← hW]; exact (Blk.new w _ _).alloc _
  have k2 : Blk W (w.heap.size + 1) #[.int .i64 0, .int .i64 0, .int .i64 0, .int .i64 0, .slice none 0 0, .slice none 0 0] := by
    rw [← hW]
    have := Blk.new (w.alloc (.cells #[.int .i64 tick, .int .i64 g0, .int .i64 g1, .int .i64 next, .slice fa free.length cf, .slice ua us.length cu] 90)) #[.int .i64 0, .int .i64 0, .int .i64 0, .int .i64 0, .slice none 0 0, .slice none 0 0] 90
    simpa using this
  go_enter Try.func116, Try.ntmps116
  go_upto_region 1 with fail
  obtain ⟨i0, hi0, hz0, hz1, hz2⟩ := info_parts infoInt
  obtain ⟨i1, hj0, hj1, hj2, hj3⟩ := info_parts infoEnt
  have hrf2 := hrf.below hbW
  obtain ⟨fv, W2, r1, o1, b1, d1⟩ := run_copy_of W 87 87 3 i0 _ 1 8 Try.underlying87 hi0 hz0 hz1 hz2 rfl (by omega) fa free.length cf (intCells free) (by simp [intCells]) (fun h0 => by
    obtain ⟨b, o, ha, -, -⟩ := hrf2 0 h0
    refine ⟨b, o, ha, fun j hj => ?_⟩
    obtain ⟨b', o', ha', -, hc⟩ := hrf2 j (by omega)
    rw [ha] at ha'
    cases ha'
    rw [hc]
    have hjl : j < free.length := by omega
    simp [intCells, List.getD, hjl]) (by intro q hq; obtain ⟨n, -, rfl⟩ := List.mem_map.1 hq; rfl) (by unfold maxLen; omega) (by omega)
  obtain ⟨fva, fvc, rfl⟩ := own_slice o1
  have HW2 := Lib.hid b1
  have k1' := k1.call b1
  have k2' := k2.call b1
  have O1 := Lib.hid o1
  have D1 := Lib.hid d1
  obtain ⟨l1, c1, -⟩ := id k1
  obtain ⟨l1', c1', f1'⟩ := id k1'
  have HK1 := Lib.hid k1'
  have HK2 := Lib.hid k2'
  have HRU := Lib.hid hru
  have HBW := Lib.hid hbW
  clear hi0 hz0 hz1 hz2 hj0 hj1 hj2 hj3 hrf hrf2 hru o1 d1 b1 k1 k2 k1' k2' hbW
  go_upto_region 2 with (at_builtin; refine list_run_append (by rfl) _ _ _ _ (by rfl) (by rfl) (by rfl) (by rfl) r1 ?_)
  refine gen_world (fun V => Below w.heap.size w V ∧ W2.heap.size ≤ V.heap.size ∧ Blk V w.heap.size #[.int .i64 tick, .int .i64 g0, .int .i64 g1, .int .i64 next, .slice fva free.length fvc, .slice ua us.length cu] ∧ Blk V (w.heap.size + 1) #[.int .i64 0, .int .i64 0, .int .i64 0, .int .i64 0, .slice none 0 0, .slice none 0 0] ∧ V.ownsRow W.heap.size 3 1 (.slice fva free.length fvc) free.length (intCells free)) ⟨?_, ?_, ?_, HK2.out.other (by omega), ?_⟩ ?_
  · exact (HBW.out.trans (HW2.out.mono (HBW.out.size))).setCell (Nat.le_refl _) _
  · exact (Kp.setCell W2 ⟨w.heap.size, 4, none⟩ _).size
  · have := HK1.out.store (.slice fva free.length fvc) (i := 4) (by simp)
    simpa using this
  · exact own_kp O1.out (Kp.setCell W2 ⟨w.heap.size, 4, none⟩ _) (fun b hb e => by have h1 := (World.ownsRow.lt O1.out b hb).1; have h2 : b = w.heap.size := e; omega)
  rintro V ⟨bV, sV, k1, k2, o1⟩
  have hruV := HRU.out.below bV
  obtain ⟨i1, hj0, hj1, hj2, hj3⟩ := info_parts infoEnt
  obtain ⟨ev, V2, r2, o2, b2, d2⟩ := run_copy_of V 88 88 179 i1 _ 10 80 Try.underlying88 hj0 hj1 hj2 hj3 rfl (by omega) ua us.length cu (cellsAll us) (cellsAll_length us) (fun h0 => by
    obtain ⟨b, o, ha, -, -⟩ := hruV 0 h0
    refine ⟨b, o, ha, fun j hj => ?_⟩
    obtain ⟨b', o', ha', -, hc⟩ := hruV (j / 10) (by omega)
    rw [ha] at ha'
    cases ha'
    have h3 := hc (j % 10) (by show j % 10 < 10; omega)
    have h4 := cellsAll_get us (j / 10) (j % 10) (by omega) (by omega)
    rw [show j / 10 * 10 + j % 10 = j from by omega] at h4
    rw [h4]
    rw [show o + j = o + j / 10 * szOf false + j % 10 from by show _ = o + j / 10 * 10 + j % 10; omega]
    exact h3) (cellsAll_one us) (by unfold maxLen; omega) (by omega)
  obtain ⟨eva, evc, rfl⟩ := own_slice o2
  have k1' := k1.call b2
  have k2' := k2.call b2
  have O2 := Lib.hid o2
  have D2 := Lib.hid d2
  have O1V := Lib.hid o1
  have B2 := Lib.hid b2
  have BV := Lib.hid bV
  obtain ⟨l2, c2, -⟩ := id k1
  obtain ⟨l2', c2', f2'⟩ := id k1'
  obtain ⟨l3, c3, f3⟩ := id k2'
  have HL1 := Lib.hid k1'
  have HL2 := Lib.hid k2'
  clear hj0 hj1 hj2 hj3 hruV o2 d2 o1 b2 bV k1 k2 k1' k2' c1 c1' f1' l1 l1' r1
  go_wp2_with (at_builtin; refine list_run_append (by rfl) _ _ _ _ (by rfl) (by rfl) (by rfl) (by rfl) r2 ?_)
  have X1 := ((HL2.out.other (T := w.heap.size) (i := 5) (v := .slice eva us.length evc) (by omega)).store6 rfl (.int .i64 tick) (.int .i64 g0) (.int .i64 g1) (.int .i64 next) (.slice fva free.length fvc) (.slice eva us.length evc))
  have XK : Kp (fun k => k = w.heap.size ∨ k = w.heap.size + 1) V2 _ := ((((((((Kp.refl _ V2).andset ⟨w.heap.size, 5, none⟩ (.slice eva us.length evc) (Or.inl rfl)).andset ⟨w.heap.size + 1, 0, none⟩ (.int .i64 tick) (Or.inr rfl)).andset ⟨w.heap.size + 1, 1, none⟩ (.int .i64 g0) (Or.inr rfl)).andset ⟨w.heap.size + 1, 2, none⟩ (.int .i64 g1) (Or.inr rfl)).andset ⟨w.heap.size + 1, 3, none⟩ (.int .i64 next) (Or.inr rfl)).andset ⟨w.heap.size + 1, 4, none⟩ (.slice fva free.length fvc) (Or.inr rfl)).andset ⟨w.heap.size + 1, 5, none⟩ (.slice eva us.length evc) (Or.inr rfl))
  have hsV := BV.out.size
  have hsW := HBW.out.size
  have o1' := own_kp O1V.out (kp_of B2.out (fun _ => False)) (fun _ _ x => x)
  have lo1 := World.ownsRow.lt O1V.out
  have lo2 := World.ownsRow.lt O2.out
  have hsz : w.heap.size + 1 < W.heap.size := l2W
  have hs22 := HW2.out.size
  refine bodyPost_ret (v := .agg #[.int .i64 tick, .int .i64 g0, .int .i64 g1, .int .i64 next, .slice fva free.length fvc, .slice eva us.length evc]) (ret_cell (d := _) Try.results116 rfl X1 Try.underlying90 rfl infoElder) rfl ?_
  refine ⟨_, _, rfl, ?_, ?_, ?_, ?_⟩
  · exact BV.out.trans ((B2.out.mono (by omega)).trans (XK.below (fun k hk => by omega) (by have := B2.out.size; omega)))
  · refine own_base (own_kp o1' XK (fun b hb e => ?_)) (by omega)
    have := (lo1 b hb).1
    omega
  · refine own_base (own_kp O2.out XK (fun b hb e => ?_)) (by omega)
    have := (lo2 b hb).1
    omega
  · intro b hb e
    have h1 := (lo1 b hb).2
    have h2 := (lo2 b e).1
    omega
end Go.Proofs.Ytlfljlhppigejaa
