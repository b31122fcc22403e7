/-
  The walk of elder.own.
-/
import Derived.Test.YtlfljlhppigejabElderCmd
import Derived.Deep.DeepCutAuto
namespace Go.Proofs.Ytlfljlhppigejab
open Go.RowKit

/-- append(nil, s...): a row of one's own. -/
theorem run_copy_of {P : Program} (w : World) (t ty e : TypeId) (i : TypeInfo) (z : Value) (size bytes : Nat) (ht : P.underlying t = some (.slice e)) (hi : P.info? e = some i) (hz : i.zero = some z)
    (hsize : i.size = size) (hby : i.bytes = bytes) (hzs : z.cells.size = size) (hsz : 0 < size) (a : Option Addr) (m c : Nat) (news : List Value) (hl : news.length = m * size)
    (hnews : 0 < m → ∃ b o, a = some ⟨b, o, none⟩ ∧ ∀ j, j < m * size → w.cell? ⟨b, o + j, none⟩ = news[j]?) (h1 : ∀ u ∈ news, u.oneCell' = true) (h63 : m ≤ maxLen) (hbytes : m * bytes ≤ 140737488355328) :
    ∃ v' w', (Builtin.append_ #[t, t] ty #[.slice none 0 0, .slice a m c]).run P w = .ok v' w' ∧ w'.ownsRow w.heap.size e size v' m news ∧ Below w.heap.size w w' ∧ (v'.ownBlock = none ∨ v'.ownBlock = some w.heap.size) := by
  have hb : ∀ {w' : World}, w.grownBy w' none → Below w.heap.size w w' := fun h => ⟨h.os, h.tape, h.output, h.size, fun k hk => h.block k hk (by simp)⟩
  by_cases hm : 0 < m
  · obtain ⟨b, o, rfl, hc⟩ := hnews hm
    obtain ⟨v', w', h2, h3, h4, -, h5⟩ := run_append_own_at (P := P) w w.heap.size t ty e i z size bytes ht hi hz hsize hby hzs hsz (.slice none 0 0) 0 [] (World.ownsRow_nil w w.heap.size e size) ⟨b, o, none⟩ m c news hl (fun j u hj => by
      have hjl := (List.getElem?_eq_some_iff.1 hj).1
      rw [addr_add, hc j (by omega)]
      exact hj) h1 (by omega) (by simpa using hbytes) (Nat.le_refl _)
    rw [Nat.zero_add, List.nil_append] at h3
    exact ⟨v', w', h2, h3, hb h4, h5⟩
  · obtain rfl : m = 0 := by omega
    have hn : news = [] := List.eq_nil_of_length_eq_zero (by simpa using hl)
    subst hn
    refine ⟨.slice none 0 0, w, ?_, World.ownsRow_nil w w.heap.size e size, Below.refl _ _, Or.inl rfl⟩
    cases a <;> simp [Builtin.append_, run_underlying ht, sizeOf, typeInfo, hi, Builtin.lenOf, Builtin.firstCells, loadCells, loadCellsFrom]
theorem own_base {w : World} {B B' e s n : Nat} {v : Value} {xs : List Value} (h : w.ownsRow B e s v n xs) (hb : B' ≤ B) : w.ownsRow B' e s v n xs := by
  refine ⟨h.1, ?_⟩
  rcases h.2 with h1 | ⟨g, c, cur, h1, h2, h3⟩
  · exact Or.inl h1
  · exact Or.inr ⟨g, c, cur, h1, Nat.le_trans hb h2, h3⟩
theorem own_slice {w : World} {B e s n : Nat} {v : Value} {xs : List Value} (h : w.ownsRow B e s v n xs) : ∃ a c, v = .slice a n c := by
  rcases h.2 with ⟨h1, h2⟩ | ⟨g, c, cur, h1, -⟩
  · exact ⟨none, 0, by rw [h1, h2]⟩
  · exact ⟨_, c, h1⟩
theorem list_run_append {P : Program} {ops : Array Oper} {rest : List Oper} {o : Oper} {a : Act} {w : World} {Q : Exit → Act → World → Prop} (hgd : o.guard = none) (s x : Operand) (t ty : TypeId)
    (ho : o.op = .call { callee := .builtin .append, args := #[s, x], argTypes := #[t, t] }) (hty : o.type = ty) {u v v' : Value} {w' : World} (hs : a.eval s = u) (hx : a.eval x = v)
    (hr : (Builtin.append_ #[t, t] ty #[u, v]).run P w = .ok v' w') (h : wpList P ops Q rest (a.put o.dst v') w') : wpList P ops Q (o :: rest) a w := by
  refine wpList_plain hgd fun K hK => ?_
  subst hty
  unfold Oper.wp execOp
  simp only [ho, resolve, invoke, builtin, Sem.run_bind, Sem.run_pure, Result.andThen_ok, List.map_toArray, List.map_cons, List.map_nil, hs, hx, hr]
  exact hK _ _ h
/-- What a call hands back that has a row in a variable of its own. -/
theorem ret_cell {P : Program} {fn : Func} {s : Tmp} {ty : TypeId} (h : fn.results = #[.cell s ty]) {tmps : Array Value} {W : World} {p : Nat} {c : Array Value} {d : TypeDesc} (hs : tmps.getD s undef = .pointer (some ⟨p, 0, none⟩))
    (hk : Blk W p c) (hu : P.underlying ty = some d) (hd : d.isRow = true) (hi : (P.info? ty).map (·.size) = some c.size) : (results fn tmps).run P W = .ok (.agg c) W := by
  have hr : W.rangeAt p 0 c.toList := fun j x hx => by
    rw [Nat.zero_add, hk.cell j]
    simpa using hx
  have hp' : tmps[s]?.getD undef = .pointer (some ⟨p, 0, none⟩) := by simpa using hs
  have h2 := run_loadVar_mid W p 0 ty c.toList d hr hu hd (by simpa using hi)
  simp [results, h, hp', asAddr, h2]

theorem Blk.store6 {w : World} {S : Nat} {c : Array Value} (h : Blk w S c) (hc : c.size = 6) (v0 v1 v2 v3 v4 v5 : Value) :
    Blk ((((((w.setCell ⟨S, 0, none⟩ v0).setCell ⟨S, 1, none⟩ v1).setCell ⟨S, 2, none⟩ v2).setCell ⟨S, 3, none⟩ v3).setCell ⟨S, 4, none⟩ v4).setCell ⟨S, 5, none⟩ v5) S #[v0, v1, v2, v3, v4, v5] := by
  obtain ⟨l⟩ := c
  match l, hc with
  | [a0, a1, a2, a3, a4, a5], _ =>
    have := (((((h.store v0 (i := 0) (by simp)).store v1 (i := 1) (by simp)).store v2 (i := 2) (by simp)).store v3 (i := 3) (by simp)).store v4 (i := 4) (by simp)).store v5 (i := 5) (by simp)
    simpa using this
theorem infoElder : (Try.prog.info? 26).map (·.size) = some 6 := by kernel_rfl

end Go.Proofs.Ytlfljlhppigejab
