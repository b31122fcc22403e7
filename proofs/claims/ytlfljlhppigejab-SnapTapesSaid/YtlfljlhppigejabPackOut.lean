/-
  The walks of snap's out: numbers that are written into a strings.Builder within a struct. The walk of snap's out.elder. The walk of snap's out.newer. The walk of (*strings.Builder).String, of an out's builder that holds at least one byte.
-/
import Derived.Test.YtlfljlhppigejabWireCore
import Derived.Test.YtlfljlhppigejabElderGame
import Derived.Test.YtlfljlhppigejabElderOwn
import Derived.Lib.AppendStr
import Derived.Lib.Builder
import Derived.Test.YtlfljlhppigejabElderMove
import Derived.Test.YtlfljlhppigejabNewFuncs
import Derived.Lib.UnsafeStr
import Derived.RegionTactic
namespace Go.Proofs.Ytlfljlhppigejab
open Go.RowKit

/-- Block S is an out: the bytes bs are written, bad: a number was below 0. -/
def OutB (w : World) (B S : Nat) (bv : Value) (bs : List Value) (bad : Bool) : Prop :=
  B ≤ S ∧ (∃ p, (p = .pointer none ∨ p = .pointer (some ⟨S, 0, none⟩)) ∧ w.heap[S]? = some (.cells #[p, bv, .bool bad] 107 (0, 0))) ∧ w.ownsRow B 5 1 bv bs.length bs ∧ bv.ownBlock ≠ some S
theorem OutB.cell {w : World} {B S : Nat} {bv : Value} {bs : List Value} {bad : Bool} (h : OutB w B S bv bs bad) : ∃ p, (p = .pointer none ∨ p = .pointer (some ⟨S, 0, none⟩)) ∧ Blk w S #[p, bv, .bool bad] := by
  obtain ⟨-, ⟨p, hp, hh⟩, -⟩ := h
  refine ⟨p, hp, (Array.getElem?_eq_some_iff.1 hh).1, fun i => ?_, fun i => ?_⟩
  · simp [World.cell?, hh]
  · simp [World.frozen?, hh]

theorem heap_set {w : World} {S i : Nat} {c : Array Value} {T : TypeId} {f : Nat × Nat} {v : Value} (h : w.heap[S]? = some (.cells c T f)) : (w.setCell ⟨S, i, none⟩ v).heap[S]? = some (.cells (c.setIfInBounds i v) T f) := by
  simp [World.setCell, Array.getElem?_modify, h]
/-- What may turn while an out is written: itself, rows of bytes from B on. -/
structure OutR (B S : Nat) (w w' : World) : Prop where
  below : Below B w w'
  oth : ∀ b, b < w.heap.size → b ≠ S → (∀ c f, w.heap[b]? ≠ some (.cells c 5 f)) → w'.heap[b]? = w.heap[b]?
theorem OutR.refl (B S : Nat) (w : World) : OutR B S w w := ⟨Below.refl _ _, fun _ _ _ _ => rfl⟩
theorem OutR.trans {B S : Nat} {a b c : World} (h : OutR B S a b) (k : OutR B S b c) : OutR B S a c :=
  ⟨h.below.trans k.below, fun i hi hS ht => by
    have h1 := h.oth i hi hS ht
    rw [k.oth i (Nat.lt_of_lt_of_le hi h.below.size) hS (fun c f => by rw [h1]; exact ht c f), h1]⟩
theorem OutR.of {B S : Nat} {w w' : World} (h : Below w.heap.size w w') (hB : B ≤ w.heap.size) : OutR B S w w' := ⟨h.mono hB, fun b hb _ _ => h.block b hb⟩
theorem OutR.set {B S : Nat} {w : World} (i : Nat) (v : Value) (hB : B ≤ S) : OutR B S w (w.setCell ⟨S, i, none⟩ v) :=
  ⟨(Below.refl _ _).setCell hB v, fun b _ hS _ => Below.heap_setCell w _ v b hS⟩

set_option maxHeartbeats 1600000 in
set_option maxRecDepth 100000 in
theorem copycheck_any (B S : Nat) (bv : Value) (bs : List Value) (bad : Bool) (w : World) (h : OutB w B S bv bs bad) :
    Calls Try.prog 112 #[.pointer (some ⟨S, 0, none⟩)] w fun e w' => e = .returned (.tuple #[]) ∧ (w' = w ∨ w' = w.setCell ⟨S, 0, none⟩ (.pointer (some ⟨S, 0, none⟩))) ∧ w'.heap[S]? = some (.cells #[.pointer (some ⟨S, 0, none⟩), bv, .bool bad] 107 (0, 0)) := by
  obtain ⟨-, ⟨p, hp, hh⟩, -, -⟩ := h
  have hl : S < w.heap.size := (Array.getElem?_eq_some_iff.1 hh).1
  have hsh : w.shape? (⟨S, 0, none⟩ : Addr).block = some (107, 3) := by simp [World.shape?, hh]
  rcases hp with rfl | rfl
  · have c0 : w.cell? ⟨S, 0, none⟩ = some (.pointer none) := by simp [World.cell?, hh]
    have f0 : w.frozen? ⟨S, 0, none⟩ = false := by simp [World.frozen?, hh]
    obtain ⟨j, hj, hjs⟩ : ∃ j, Try.prog.info? 105 = some j ∧ j.size ≠ 0 := ⟨(Try.prog.info? 105).get (by kernel_rfl), by kernel_rfl, by
      have : ((Try.prog.info? 105).get (by kernel_rfl)).size = 2 := by kernel_rfl
      rw [this]; decide⟩
    have r1 := Lib.run_to_unsafe (P := Try.prog) (w := w) (src := 102) (dst := 206) ⟨S, 0, none⟩ (by kernel_rfl) (by kernel_rfl) hj hjs hsh (by show 0 < 3; omega)
    have r2 := Lib.run_from_unsafe (P := Try.prog) (w := w) (src := 206) (dst := 102) ⟨S, 0, none⟩ (by kernel_rfl) (by kernel_rfl) hj hsh (by kernel_rfl)
    go_enter Try.func112, Try.ntmps112
    go_wp2_with fail
    rw [run_callFunc_extern Try.func130 (by kernel_rfl) (by kernel_rfl) (by kernel_rfl) (e := Extern.AbiNoEscape.same) (by kernel_rfl)]
    rw [Lib.run_noEscape]
    simp only [Result.andThen]
    rw [Oper.upon_value]
    go_wp2_with fail
    go_end0
    exact ⟨rfl, Or.inr rfl, by rw [heap_set hh]; rfl⟩
  · have c0 : w.cell? ⟨S, 0, none⟩ = some (.pointer (some ⟨S, 0, none⟩)) := by simp [World.cell?, hh]
    go_enter Try.func112, Try.ntmps112
    obtain ⟨j, hj⟩ : ∃ j, Try.prog.info? 105 = some j := ⟨(Try.prog.info? 105).get (by kernel_rfl), by kernel_rfl⟩
    go_wp2_with fail
    rw [Lib.run_neq_ptr_same w _ (by kernel_rfl) hj]
    go_wp2_with fail
    go_end0
    exact ⟨rfl, Or.inl rfl, hh⟩

theorem list_run_append2 {P : Program} {ops : Array Oper} {rest : List Oper} {o : Oper} {a : Act} {w : World} {Q : Exit → Act → World → Prop} (hgd : o.guard = none) (s x : Operand) (t t' ty : TypeId)
    (ho : o.op = .call { callee := .builtin .append, args := #[s, x], argTypes := #[t, t'] }) (hty : o.type = ty) {u v v' : Value} {w' : World} (hs : a.eval s = u) (hx : a.eval x = v)
    (hr : (Builtin.append_ #[t, t'] ty #[u, v]).run P w = .ok v' w') (h : wpList P ops Q rest (a.put o.dst v') w') : wpList P ops Q (o :: rest) a w := by
  refine wpList_plain hgd fun K hK => ?_
  subst hty
  unfold Oper.wp execOp
  simp only [ho, resolve, invoke, builtin, Sem.run_bind, Sem.run_pure, Result.andThen_ok, List.map_toArray, List.map_cons, List.map_nil, hs, hx, hr]
  exact hK _ _ h
set_option maxHeartbeats 1600000 in
set_option maxRecDepth 100000 in
theorem writestring_any (B S : Nat) (bv : Value) (bs : List Value) (bad : Bool) (s : ByteArray) (w : World) (h : OutB w B S bv bs bad) (hlen : bs.length + s.size ≤ 1000000) (hBw : B ≤ w.heap.size) :
    Calls Try.prog 88 #[.pointer (some ⟨S, 0, none⟩), .string s] w fun e w' => e = .returned (.tuple #[.int .i64 s.size, .nilIface]) ∧ (∃ bv', OutB w' B S bv' (bs ++ Lib.strCells s) bad) ∧ OutR B S w w' := by
  obtain ⟨hBS, -, hown, hne⟩ := id h
  have HH := Lib.hid h
  clear h
  go_enter Try.func88, Try.ntmps88
  go_wp2_with fail
  refine (copycheck_any B S bv bs bad w HH.out).mono ?_
  rintro e w1 ⟨rfl, hw1, hh⟩
  have r1 : OutR B S w w1 := by
    rcases hw1 with rfl | rfl
    · exact OutR.refl _ _ _
    · exact OutR.set 0 _ hBS
  have k1 : Kp (fun b => b = S) w w1 := by
    rcases hw1 with rfl | rfl
    · exact Kp.refl _ _
    · exact Kp.setCell w ⟨S, 0, none⟩ _
  have own1 := own_kp hown k1 (fun b hb e => hne (by rw [hb, show b = S from e]))
  obtain ⟨i, hi, hz, hs1, hb1⟩ : ∃ i, Try.prog.info? 5 = some i ∧ i.zero = some (.int .u8 0) ∧ i.size = 1 ∧ i.bytes = 1 := ⟨(Try.prog.info? 5).get (by kernel_rfl), by kernel_rfl, by kernel_rfl, by kernel_rfl, by kernel_rfl⟩
  obtain ⟨v', w2, hrun, own2, hgr, -⟩ := Lib.run_append_own_string (P := Try.prog) (w := w1) B 103 9 103 5 i Try.underlying103 Try.underlying9 hi hz hs1 hb1 bv bs.length bs own1 s (by unfold maxLen; omega) (by omega) (by have := k1.size; omega)
  obtain ⟨va, vc, rfl⟩ := own_slice own2
  have kg := Kp.grown hgr
  have hh2 : w2.heap[S]? = some (.cells #[.pointer (some ⟨S, 0, none⟩), bv, .bool bad] 107 (0, 0)) := by
    rw [kg.block S (Array.getElem?_eq_some_iff.1 hh).1 (fun e => hne e.symm)]
    exact hh
  have c1 : w1.cell? ⟨S, 1, none⟩ = some bv := by simp [World.cell?, hh]
  have c2 : w2.cell? ⟨S, 1, none⟩ = some bv := by simp [World.cell?, hh2]
  have f2 : w2.frozen? ⟨S, 1, none⟩ = false := by simp [World.frozen?, hh2]
  have l1 : S < w1.heap.size := (Array.getElem?_eq_some_iff.1 hh).1
  have l2 : S < w2.heap.size := (Array.getElem?_eq_some_iff.1 hh2).1
  have hne2 : (Value.slice va (bs.length + s.size) vc).ownBlock ≠ some S := by
    intro e
    rcases own2.2 with ⟨h1, -⟩ | ⟨g, cap, cur, h1, -, h3, -⟩
    · rw [h1] at e; cases e
    · rw [h1] at e
      have : g = S := Option.some.inj e
      rw [this, hh2] at h3
      cases h3
  have r2 : OutR B S w1 w2 := ⟨kg.below (fun b hb => (World.ownsRow.lt own1 b hb.symm).1) (by have := k1.size; omega), fun b hb hS ht => kg.block b hb (fun e => by
    rcases own1.2 with ⟨h1, -⟩ | ⟨g, cap, cur, h1, -, h3, -⟩
    · rw [h1] at e; cases e
    · rw [h1] at e
      have : b = g := Option.some.inj e
      rw [this] at ht
      exact ht _ _ h3)⟩
  have R12 := Lib.hid (r1.trans r2)
  have HH2 := Lib.hid hh2
  have OWN2 := Lib.hid own2
  have HNE2 := Lib.hid hne2
  clear hown hne hw1 hh r1 k1 own1 hi hz hs1 hb1 own2 hgr kg hh2 hne2 r2
  go_wp2_with (at_builtin; refine list_run_append2 (by rfl) _ _ _ _ _ (by rfl) (by rfl) (by rfl) (by rfl) hrun ?_)
  go_ret2
  refine ⟨rfl, ⟨.slice va (bs.length + s.size) vc, hBS, ⟨_, Or.inr rfl, by rw [heap_set HH2.out]; rfl⟩, ?_, HNE2.out⟩, R12.out.trans (OutR.set 1 _ hBS)⟩
  have e : (bs ++ Lib.strCells s).length = bs.length + s.size := by rw [List.length_append, Lib.strCells_length]
  rw [e]
  exact own_kp OWN2.out (Kp.setCell w2 ⟨S, 1, none⟩ _) (fun b hb h => HNE2.out (by rw [hb, show b = S from h]))

/-! ### Numbers -/
def u8V (l : List UInt8) : List Value := l.map fun b => Value.int .u8 b.toNat
theorem u8V_str (l : List UInt8) : Lib.strCells (bstr l) = u8V l := by unfold Lib.strCells u8V; rw [bstr_list]
theorem u8V_append (a b : List UInt8) : u8V (a ++ b) = u8V a ++ u8V b := by simp [u8V]
theorem u8V_length (l : List UInt8) : (u8V l).length = l.length := by simp [u8V]
/-- A number's bytes; none, of a number below 0. -/
def numB (n : Int) : List UInt8 := if n < 0 then [] else numL n.toNat
def outL (ls : List Int) : List UInt8 := ls.flatMap numB
def badL (ls : List Int) : Bool := ls.any fun n => decide (n < 0)
theorem numF_length (f n : Nat) : (numF f n).length ≤ f + 1 := by
  induction f generalizing n with
  | zero => simp [numF]
  | succ f ih => unfold numF; split <;> simp; exact ih _
theorem numB_length (n : Int) : (numB n).length ≤ 10 := by
  unfold numB
  split
  · simp
  · exact numF_length 9 _
theorem outL_length (ls : List Int) : (outL ls).length ≤ 10 * ls.length := by
  induction ls with
  | nil => simp [outL]
  | cons x ls ih => unfold outL at *; rw [List.flatMap_cons, List.length_append, List.length_cons]; have := numB_length x; omega
theorem takeI_snoc {ls : List Int} {k : Nat} (h : k < ls.length) (n : Int) (hn : ls.getD k 0 = n) : ls.take (k + 1) = ls.take k ++ [n] := by
  rw [List.take_succ_eq_append_getElem h, ← hn]
  simp [List.getD, h]
theorem OutB.setBad {w : World} {B S : Nat} {bv : Value} {bs : List Value} {bad : Bool} (h : OutB w B S bv bs bad) (b : Bool) : OutB (w.setCell ⟨S, 2, none⟩ (.bool b)) B S bv bs b := by
  obtain ⟨h1, ⟨p, hp, hh⟩, h3, h4⟩ := h
  exact ⟨h1, ⟨p, hp, by rw [heap_set hh]; rfl⟩, own_kp h3 (Kp.setCell w ⟨S, 2, none⟩ _) (fun c hc e => h4 (by rw [hc, show c = S from e])), h4⟩
theorem OutB.call {w w' : World} {B S : Nat} {bv : Value} {bs : List Value} {bad : Bool} (h : OutB w B S bv bs bad) (k : Below w.heap.size w w') : OutB w' B S bv bs bad := by
  obtain ⟨h1, ⟨p, hp, hh⟩, h3, h4⟩ := h
  exact ⟨h1, ⟨p, hp, by rw [k.block S (Array.getElem?_eq_some_iff.1 hh).1]; exact hh⟩, own_kp h3 (kp_of k (fun _ => False)) (fun _ _ x => x), h4⟩

set_option maxHeartbeats 3200000 in
set_option maxRecDepth 100000 in
theorem outnums_any (B S : Nat) (bs : List UInt8) (bad : Bool) (bv : Value) (ls : List Int) (la : Option Addr) (cl : Nat) (w : World) (h : OutB w B S bv (u8V bs) bad) (hlen : bs.length + 10 * ls.length ≤ 1000000) (hfit : ∀ n ∈ ls, Fits64 n)
    (hrow : ∀ w', OutR B S w w' → ∀ k, k < ls.length → ∃ b o, la = some ⟨b, o, none⟩ ∧ b < w'.heap.size ∧ w'.cell? ⟨b, o + k, none⟩ = some (.int .i64 (ls.getD k 0))) (hBw : B ≤ w.heap.size) :
    Calls Try.prog 53 #[.pointer (some ⟨S, 0, none⟩), .slice la ls.length cl] w fun e w' => e = .returned (.tuple #[]) ∧ (∃ bv', OutB w' B S bv' (u8V (bs ++ outL ls)) (bad || badL ls)) ∧ OutR B S w w' := by
  have HH := Lib.hid h
  have HROW := Lib.hid hrow
  have HFIT := Lib.hid hfit
  have hBS := h.1
  clear h hrow hfit
  have hn0 : (0 : Int) ≤ (ls.length : Int) := by omega
  go_enter Try.func53, Try.ntmps53
  go_wp2_with fail
  go_loopw [5, 6, 7, 10] (fun _ _ _ i wr => ∃ k : Nat, i = .int .i64 k ∧ k ≤ ls.length ∧ ((∃ bv', OutB wr B S bv' (u8V (bs ++ outL (ls.take k))) (bad || badL (ls.take k))) ∧ OutR B S w wr)) (fun _ _ _ i _ => (ls.length - intOf i).toNat)
  case atStart => exact ⟨0, rfl, by omega, ⟨bv, by simpa [outL, badL] using HH.out⟩, OutR.refl _ _ _⟩
  case round =>
    obtain ⟨k, rfl, hk, ⟨bv', ob⟩, rr⟩ := hrel
    have RR := Lib.hid rr
    have OB := Lib.hid ob
    have hszr := rr.below.size
    by_cases hlt : k < ls.length
    · obtain ⟨n, hn⟩ : ∃ n, ls.getD k 0 = n := ⟨_, rfl⟩
      obtain ⟨b, o, hla, hbr, hc⟩ := HROW.out wr rr k hlt
      rw [hn] at hc
      subst hla
      have hki : (0 : Int) ≤ (k : Int) := by omega
      have hkl : (k : Int) < (ls.length : Int) := by omega
      have hnm : n ∈ ls := by rw [← hn]; simp [List.getD, hlt]
      have hnf := HFIT.out n hnm
      unfold Fits64 at hnf
      have htk := takeI_snoc hlt n hn
      have ho : outL (ls.take (k + 1)) = outL (ls.take k) ++ numB n := by rw [htk]; simp [outL]
      have hb : badL (ls.take (k + 1)) = (badL (ls.take k) || decide (n < 0)) := by rw [htk]; simp [badL]
      have HO := Lib.hid ho
      have HB := Lib.hid hb
      obtain ⟨N, hN⟩ : ∃ x, (bad || badL (ls.take k)) = x := ⟨_, rfl⟩
      obtain ⟨L, hL⟩ : ∃ x, bs ++ outL (ls.take k) = x := ⟨_, rfl⟩
      have hLl : L.length ≤ bs.length + 10 * k := by
        rw [← hL, List.length_append]
        have := outL_length (ls.take k)
        rw [List.length_take] at this
        omega
      have HN := Lib.hid hN
      have HL := Lib.hid hL
      have OB' : Hid (OutB wr B S bv' (u8V L) N) := Lib.hid (by rw [← hN, ← hL]; exact OB.out)
      clear hn hnm htk ho hb hN hL ob rr OB
      have hnum : Calls Try.prog 87 #[.int .i64 n] wr fun e w' => e = .returned (.tuple #[.string (bstr (numB n)), if n < 0 then .iface 112 (.int .i64 1) else .nilIface]) ∧ Below wr.heap.size wr w' := by
        by_cases h0 : n < 0
        · refine (num_neg n h0 wr).mono ?_
          rintro e w' ⟨rfl, hb⟩
          refine ⟨?_, hb⟩
          unfold numB
          rw [if_pos h0, if_pos h0]
          rfl
        · obtain ⟨m, rfl⟩ := Int.eq_ofNat_of_zero_le (show 0 ≤ n by omega)
          refine (num_any m (by omega) wr).mono ?_
          rintro e w' ⟨rfl, hb⟩
          refine ⟨?_, hb⟩
          unfold numB
          rw [if_neg h0, if_neg h0, Int.toNat_natCast]
      by_cases h0 : n < 0
      · have hd : decide (n < 0) = true := decide_eq_true h0
        simp only [if_pos h0] at hnum
        have HNUM := Lib.hid hnum
        have HD := Lib.hid hd
        clear hnum h0 hd
        cases N
        · go_wp2_with fail
          refine (HNUM.out).mono ?_
          rintro e w1 ⟨rfl, b1⟩
          have ob1 := OB'.out.call b1
          obtain ⟨p, -, kb⟩ := ob1.cell
          obtain ⟨lS, cS, fS⟩ := id kb
          have c2 : w1.cell? ⟨S, 2, none⟩ = some (.bool false) := cS 2
          have f2 := fS 2
          have OB1 := Lib.hid (ob1.setBad true)
          have R1 := Lib.hid ((RR.out.trans (OutR.of b1 (by omega))).trans (OutR.set 2 (.bool true) hBS))
          have hsz1 : (w1.setCell ⟨S, 2, none⟩ (.bool true)).heap.size = w1.heap.size := by simp
          have hs1 := b1.size
          clear b1 ob1 kb cS fS
          go_wp2_with fail
          refine (writestring_any B S bv' (u8V L) true (bstr (numB n)) _ OB1.out (by rw [u8V_length, bstr_size]; have := numB_length n; omega) (by rw [hsz1]; omega)).mono ?_
          rintro e w2 ⟨rfl, ⟨bv2, ob2⟩, r2⟩
          have OB2 := Lib.hid ob2
          have R2 := Lib.hid (R1.out.trans r2)
          clear ob2 r2 c2 f2
          go_wp2_with fail
          go_roundw
          case rel =>
            refine ⟨k + 1, by go_num, by omega, ⟨bv2, ?_⟩, R2.out⟩
            rw [HO.out, HB.out, ← List.append_assoc, HL.out, u8V_append, ← u8V_str (numB n), ← Bool.or_assoc, HN.out, HD.out, Bool.false_or]
            exact OB2.out
          case measure => simp [intOf]; omega
        · go_wp2_with fail
          refine (HNUM.out).mono ?_
          rintro e w1 ⟨rfl, b1⟩
          have ob1 := OB'.out.call b1
          obtain ⟨p, -, kb⟩ := ob1.cell
          obtain ⟨lS, cS, fS⟩ := id kb
          have c2 : w1.cell? ⟨S, 2, none⟩ = some (.bool true) := cS 2
          have f2 := fS 2
          have OB1 := Lib.hid (ob1.setBad true)
          have R1 := Lib.hid ((RR.out.trans (OutR.of b1 (by omega))).trans (OutR.set 2 (.bool true) hBS))
          have hsz1 : (w1.setCell ⟨S, 2, none⟩ (.bool true)).heap.size = w1.heap.size := by simp
          have hs1 := b1.size
          clear b1 ob1 kb cS fS
          go_wp2_with fail
          refine (writestring_any B S bv' (u8V L) true (bstr (numB n)) _ OB1.out (by rw [u8V_length, bstr_size]; have := numB_length n; omega) (by rw [hsz1]; omega)).mono ?_
          rintro e w2 ⟨rfl, ⟨bv2, ob2⟩, r2⟩
          have OB2 := Lib.hid ob2
          have R2 := Lib.hid (R1.out.trans r2)
          clear ob2 r2 c2 f2
          go_wp2_with fail
          go_roundw
          case rel =>
            refine ⟨k + 1, by go_num, by omega, ⟨bv2, ?_⟩, R2.out⟩
            rw [HO.out, HB.out, ← List.append_assoc, HL.out, u8V_append, ← u8V_str (numB n), ← Bool.or_assoc, HN.out, HD.out, Bool.true_or]
            exact OB2.out
          case measure => simp [intOf]; omega
      · have hd : decide (n < 0) = false := decide_eq_false h0
        simp only [if_neg h0] at hnum
        have HNUM := Lib.hid hnum
        have HD := Lib.hid hd
        clear hnum h0 hd
        cases N
        · go_wp2_with fail
          refine (HNUM.out).mono ?_
          rintro e w1 ⟨rfl, b1⟩
          have ob1 := OB'.out.call b1
          obtain ⟨p, -, kb⟩ := ob1.cell
          obtain ⟨lS, cS, fS⟩ := id kb
          have c2 : w1.cell? ⟨S, 2, none⟩ = some (.bool false) := cS 2
          have f2 := fS 2
          have OB1 := Lib.hid (ob1.setBad false)
          have R1 := Lib.hid ((RR.out.trans (OutR.of b1 (by omega))).trans (OutR.set 2 (.bool false) hBS))
          have hsz1 : (w1.setCell ⟨S, 2, none⟩ (.bool false)).heap.size = w1.heap.size := by simp
          have hs1 := b1.size
          clear b1 ob1 kb cS fS
          go_wp2_with fail
          refine (writestring_any B S bv' (u8V L) false (bstr (numB n)) _ OB1.out (by rw [u8V_length, bstr_size]; have := numB_length n; omega) (by rw [hsz1]; omega)).mono ?_
          rintro e w2 ⟨rfl, ⟨bv2, ob2⟩, r2⟩
          have OB2 := Lib.hid ob2
          have R2 := Lib.hid (R1.out.trans r2)
          clear ob2 r2 c2 f2
          go_wp2_with fail
          go_roundw
          case rel =>
            refine ⟨k + 1, by go_num, by omega, ⟨bv2, ?_⟩, R2.out⟩
            rw [HO.out, HB.out, ← List.append_assoc, HL.out, u8V_append, ← u8V_str (numB n), ← Bool.or_assoc, HN.out, HD.out, Bool.false_or]
            exact OB2.out
          case measure => simp [intOf]; omega
        · go_wp2_with fail
          refine (HNUM.out).mono ?_
          rintro e w1 ⟨rfl, b1⟩
          have ob1 := OB'.out.call b1
          obtain ⟨p, -, kb⟩ := ob1.cell
          obtain ⟨lS, cS, fS⟩ := id kb
          have c2 : w1.cell? ⟨S, 2, none⟩ = some (.bool true) := cS 2
          have f2 := fS 2
          have OB1 := Lib.hid (ob1.setBad true)
          have R1 := Lib.hid ((RR.out.trans (OutR.of b1 (by omega))).trans (OutR.set 2 (.bool true) hBS))
          have hsz1 : (w1.setCell ⟨S, 2, none⟩ (.bool true)).heap.size = w1.heap.size := by simp
          have hs1 := b1.size
          clear b1 ob1 kb cS fS
          go_wp2_with fail
          refine (writestring_any B S bv' (u8V L) true (bstr (numB n)) _ OB1.out (by rw [u8V_length, bstr_size]; have := numB_length n; omega) (by rw [hsz1]; omega)).mono ?_
          rintro e w2 ⟨rfl, ⟨bv2, ob2⟩, r2⟩
          have OB2 := Lib.hid ob2
          have R2 := Lib.hid (R1.out.trans r2)
          clear ob2 r2 c2 f2
          go_wp2_with fail
          go_roundw
          case rel =>
            refine ⟨k + 1, by go_num, by omega, ⟨bv2, ?_⟩, R2.out⟩
            rw [HO.out, HB.out, ← List.append_assoc, HL.out, u8V_append, ← u8V_str (numB n), ← Bool.or_assoc, HN.out, HD.out, Bool.true_or]
            exact OB2.out
          case measure => simp [intOf]; omega
    · obtain rfl : k = ls.length := by omega
      rw [List.take_length] at ob
      go_wp2_with fail
      go_end0
      exact ⟨rfl, ⟨bv', ob⟩, rr⟩
end Go.Proofs.Ytlfljlhppigejab
namespace Go.Proofs.Ytlfljlhppigejab
open Go.RowKit

/-- Block K holds just these cells, of this type. -/
def Fx (w : World) (K : Nat) (c : Array Value) (T : TypeId) : Prop := w.heap[K]? = some (.cells c T (0, 0))
theorem Fx.new (w : World) (c : Array Value) (T : TypeId) : Fx (w.alloc (.cells c T)) w.heap.size c T := heap_alloc_new w _
theorem Fx.blk {w : World} {K : Nat} {c : Array Value} {T : TypeId} (h : Fx w K c T) : Blk w K c :=
  ⟨(Array.getElem?_eq_some_iff.1 h).1, fun i => by unfold Fx at h; simp [World.cell?, h], fun i => by unfold Fx at h; simp [World.frozen?, h]⟩
theorem Fx.out {w w' : World} {K B S : Nat} {c : Array Value} {T : TypeId} (h : Fx w K c T) (r : OutR B S w w') (hS : K ≠ S) (hT : T ≠ 5) : Fx w' K c T := by
  unfold Fx at *
  rw [r.oth K (Array.getElem?_eq_some_iff.1 h).1 hS (fun c' f e => by rw [h] at e; cases e; exact hT rfl)]
  exact h
theorem Fx.call {w w' : World} {K : Nat} {c : Array Value} {T : TypeId} (h : Fx w K c T) (k : Below w.heap.size w w') : Fx w' K c T := by
  unfold Fx at *
  rw [k.block K (Array.getElem?_eq_some_iff.1 h).1]
  exact h
/-- The numbers of a slice that was just made. -/
theorem fresh_row {w : World} {B S : Nat} (ls : List Int) (c : Array Value) (hc : c = (ls.map (Value.int .i64)).toArray) (hS : w.heap.size ≠ S) : ∀ w', OutR B S (w.alloc (.cells c 3)) w' → ∀ k, k < ls.length → ∃ b o, (some (⟨w.heap.size, 0, none⟩ : Addr)) = some ⟨b, o, none⟩ ∧ b < w'.heap.size ∧ w'.cell? ⟨b, o + k, none⟩ = some (.int .i64 (ls.getD k 0)) := by
  intro w' r k hk
  have h := ((Fx.new w c 3).out r hS (by decide)).blk
  refine ⟨_, _, rfl, h.lt, ?_⟩
  rw [Nat.zero_add, h.cell k, hc]
  simp [List.getD, hk]

def fieldsE (u : U) : List Int := [u.id, u.owner, u.kind, u.x, u.y, u.hp, u.does, u.gx, u.gy, u.target]
/-- An elder state's numbers. -/
def elderN (g : G) : List Int := [g.tick, g.g0, g.g1, g.next, (g.free.length : Int)] ++ g.free ++ [(g.us.length : Int)] ++ g.us.flatMap fieldsE
theorem outL_append (a b : List Int) : outL (a ++ b) = outL a ++ outL b := by simp [outL]
theorem badL_append (a b : List Int) : badL (a ++ b) = (badL a || badL b) := by simp [badL]

set_option maxHeartbeats 6400000 in
set_option maxRecDepth 100000 in
theorem outelder_any (g : G) (B S : Nat) (bs : List UInt8) (bad : Bool) (bv : Value) (fa ua : Option Addr) (cf cu : Nat) (w : World) (h : OutB w B S bv (u8V bs) bad) (hlen : bs.length ≤ 500000) (h200 : g.free.length ≤ 1000) (h20 : g.us.length ≤ 1000) (hfit : g.Fits)
    (hf : Row B w fa g.free.length (fun k => .int .i64 (g.free.getD k 0))) (hu : URow false B w ua g.us) (hBw : B ≤ w.heap.size) :
    Calls Try.prog 52 #[.pointer (some ⟨S, 0, none⟩), .agg #[.int .i64 g.tick, .int .i64 g.g0, .int .i64 g.g1, .int .i64 g.next, .slice fa g.free.length cf, .slice ua g.us.length cu]] w
      fun e w' => e = .returned (.tuple #[]) ∧ (∃ bv', OutB w' B S bv' (u8V (bs ++ outL (elderN g))) (bad || badL (elderN g))) ∧ OutR B S w w' := by
  have hBS := h.1
  have hSl : S < w.heap.size := by obtain ⟨p, -, k⟩ := h.cell; exact k.lt
  obtain ⟨W, hW⟩ : ∃ W, w.alloc (.cells #[.int .i64 g.tick, .int .i64 g.g0, .int .i64 g.g1, .int .i64 g.next, .slice fa g.free.length cf, .slice ua g.us.length cu] 26) = W := ⟨_, rfl⟩
  have hbW : Below w.heap.size w W := by rw [← hW]; exact (Below.refl _ _).alloc (Nat.le_refl _) _
  have fxK : Fx W w.heap.size #[.int .i64 g.tick, .int .i64 g.g0, .int .i64 g.g1, .int .i64 g.next, .slice fa g.free.length cf, .slice ua g.us.length cu] 26 := by rw [← hW]; exact Fx.new w _ _
  have rW : OutR B S w W := OutR.of hbW hBw
  have HF := Lib.hid hf
  have HU := Lib.hid hu
  have HFIT := Lib.hid hfit
  have FXK := Lib.hid fxK
  have RW := Lib.hid rW
  have OBW := Lib.hid (h.call hbW)
  have hsW := hbW.size
  obtain ⟨lK, cK, -⟩ := id fxK.blk
  have hfl : Fits64 (g.free.length : Int) := ⟨by omega, by omega⟩
  have hul : Fits64 (g.us.length : Int) := ⟨by omega, by omega⟩
  clear h hf hu hfit hbW fxK rW
  go_enter Try.func52, Try.ntmps52
  go_upto_region 1 with fail
  try rw [hW]
  clear hW
  go_wp2_with fail
  have hb1 : Below W.heap.size W (W.alloc (.cells #[.int .i64 g.tick, .int .i64 g.g0, .int .i64 g.g1, .int .i64 g.next, .int .i64 g.free.length] 3)) := (Below.refl _ _).alloc (Nat.le_refl _) _
  refine (outnums_any B S bs bad bv [g.tick, g.g0, g.g1, g.next, (g.free.length : Int)] _ 5 _ (OBW.out.call hb1) (by simp; omega) (fun n hn => ?_) (fresh_row [g.tick, g.g0, g.g1, g.next, (g.free.length : Int)] _ rfl (by omega)) (by have := hb1.size; omega)).mono ?_
  · obtain ⟨f1, f2, f3, f4, -⟩ := HFIT.out
    simp at hn
    rcases hn with rfl | rfl | rfl | rfl | rfl <;> assumption
  rintro e w1 ⟨rfl, ⟨bv1, ob1⟩, r1⟩
  have R1 := Lib.hid ((RW.out.trans (OutR.of hb1 (by omega))).trans r1)
  have fx1 := (FXK.out.call hb1).out r1 (by omega) (by decide)
  obtain ⟨lK1, cK1, -⟩ := id fx1.blk
  have FX1 := Lib.hid fx1
  have OB1 := Lib.hid ob1
  have hs1 := R1.out.below.size
  clear hb1 ob1 r1 fx1 cK lK
  go_wp2_with fail
  refine (outnums_any B S _ _ bv1 g.free fa cf w1 OB1.out (by
    rw [List.length_append]
    have := outL_length [g.tick, g.g0, g.g1, g.next, (g.free.length : Int)]
    simp at this
    omega) HFIT.out.2.2.2.2.1 (fun w' r k hk => by
    obtain ⟨b, o, h1, h2, h3⟩ := (HF.out.below (R1.out.trans r).below) k hk
    have := (R1.out.trans r).below.size
    exact ⟨b, o, h1, by omega, h3⟩) (by omega)).mono ?_
  rintro e w2 ⟨rfl, ⟨bv2, ob2⟩, r2⟩
  have R2 := Lib.hid (R1.out.trans r2)
  have fx2 := FX1.out.out r2 (by omega) (by decide)
  obtain ⟨lK2, cK2, -⟩ := id fx2.blk
  have FX2 := Lib.hid fx2
  have OB2 := Lib.hid ob2
  have hs2 := r2.below.size
  clear ob2 r2 fx2 cK1 lK1
  have hb2 : Below w2.heap.size w2 (w2.alloc (.cells #[.int .i64 g.us.length] 3)) := (Below.refl _ _).alloc (Nat.le_refl _) _
  go_wp2_with fail
  refine (outnums_any B S _ _ bv2 [(g.us.length : Int)] _ 1 _ (OB2.out.call hb2) (by
    rw [List.length_append, List.length_append]
    have := outL_length [g.tick, g.g0, g.g1, g.next, (g.free.length : Int)]
    have := outL_length g.free
    simp at *
    omega) (fun n hn => by simp at hn; rw [hn]; exact hul) (fresh_row [(g.us.length : Int)] _ rfl (by omega)) (by have := hb2.size; omega)).mono ?_
  rintro e w3 ⟨rfl, ⟨bv3, ob3⟩, r3⟩
  have R3 := Lib.hid ((R2.out.trans (OutR.of hb2 (by omega))).trans r3)
  have fx3 := (FX2.out.call hb2).out r3 (by omega) (by decide)
  obtain ⟨lK3, cK3, -⟩ := id fx3.blk
  have FX3 := Lib.hid fx3
  have hs3 := R3.out.below.size
  have ob3' : OutB w3 B S bv3 (u8V (bs ++ outL ([g.tick, g.g0, g.g1, g.next, (g.free.length : Int)] ++ g.free ++ [(g.us.length : Int)]))) (bad || badL ([g.tick, g.g0, g.g1, g.next, (g.free.length : Int)] ++ g.free ++ [(g.us.length : Int)])) := by
    rw [outL_append, outL_append, badL_append, badL_append]
    simpa [List.append_assoc, Bool.or_assoc] using ob3
  have OB3 := Lib.hid ob3'
  obtain ⟨PRE, hPRE⟩ : ∃ l, [g.tick, g.g0, g.g1, g.next, (g.free.length : Int)] ++ g.free ++ [(g.us.length : Int)] = l := ⟨_, rfl⟩
  have hpl : PRE.length ≤ 1006 := by rw [← hPRE]; simp; omega
  rw [hPRE] at OB3
  have HPRE := Lib.hid hPRE
  clear hb2 ob3 r3 fx3 cK2 lK2 ob3' hPRE
  have hn0 : (0 : Int) ≤ (g.us.length : Int) := by omega
  go_wp2_with fail
  go_loopw [35] (fun i wr => ∃ k : Nat, i = .int .i64 k ∧ k ≤ g.us.length ∧ ((∃ bv', OutB wr B S bv' (u8V (bs ++ outL (PRE ++ (g.us.take k).flatMap fieldsE))) (bad || badL (PRE ++ (g.us.take k).flatMap fieldsE))) ∧ OutR B S w3 wr)) (fun i _ => (g.us.length - intOf i).toNat)
  case atStart => exact ⟨0, rfl, by omega, ⟨bv3, by simpa using OB3.out⟩, OutR.refl _ _ _⟩
  case round =>
    obtain ⟨k, rfl, hk, ⟨bv', ob⟩, rr⟩ := hrel
    have RR := Lib.hid rr
    have hszr := rr.below.size
    by_cases hlt : k < g.us.length
    · obtain ⟨u, hu⟩ : ∃ u, g.us.getD k zeroU = u := ⟨_, rfl⟩
      have hum : u ∈ g.us := by rw [← hu, getD_lt hlt]; exact List.getElem_mem hlt
      obtain ⟨b, o, hua, hbB, q0, q1, q2, q3, q4, q5, q6, q7, q8, q9⟩ := (HU.out.below (R3.out.trans rr).below).getE k hlt u hu
      subst hua
      have hbr : b < wr.heap.size := by omega
      have hki : (0 : Int) ≤ (k : Int) := by omega
      have hkl : (k : Int) < (g.us.length : Int) := by omega
      have hnx : PRE ++ (g.us.take (k + 1)).flatMap fieldsE = PRE ++ (g.us.take k).flatMap fieldsE ++ fieldsE u := by
        rw [take_at hlt, hu, List.flatMap_append]
        simp
      have hfl : ∀ m, ((g.us.take m).flatMap fieldsE).length ≤ 10 * m := fun m => by
        have e : ∀ l : List U, (l.flatMap fieldsE).length = 10 * l.length := fun l => by
          induction l with
          | nil => rfl
          | cons x l ih => rw [List.flatMap_cons, List.length_append, ih]; simp [fieldsE]; omega
        rw [e, List.length_take]
        omega
      have hLl := outL_length (PRE ++ (g.us.take k).flatMap fieldsE)
      rw [List.length_append] at hLl
      have hf2 := hfl k
      have huf := HFIT.out.2.2.2.2.2 u hum
      have HNX := Lib.hid hnx
      have OB := Lib.hid ob
      have HUF := Lib.hid huf
      obtain ⟨V, hV⟩ : ∃ V, wr.alloc (.cells #[.int .i64 u.id, .int .i64 u.owner, .int .i64 u.kind, .int .i64 u.x, .int .i64 u.y, .int .i64 u.hp, .int .i64 u.does, .int .i64 u.gx, .int .i64 u.gy, .int .i64 u.target] 83) = V := ⟨_, rfl⟩
      have hbV : Below wr.heap.size wr V := by rw [← hV]; exact (Below.refl _ _).alloc (Nat.le_refl _) _
      have kE : Blk V wr.heap.size #[.int .i64 u.id, .int .i64 u.owner, .int .i64 u.kind, .int .i64 u.x, .int .i64 u.y, .int .i64 u.hp, .int .i64 u.does, .int .i64 u.gx, .int .i64 u.gy, .int .i64 u.target] := by rw [← hV]; exact Blk.new wr _ _
      have hbV2 : Below V.heap.size V (V.alloc (.cells #[.int .i64 u.id, .int .i64 u.owner, .int .i64 u.kind, .int .i64 u.x, .int .i64 u.y, .int .i64 u.hp, .int .i64 u.does, .int .i64 u.gx, .int .i64 u.gy, .int .i64 u.target] 3)) := (Below.refl _ _).alloc (Nat.le_refl _) _
      have hsV := hbV.size
      obtain ⟨lE, cE, -⟩ := id kE
      have HBV := Lib.hid hbV
      have HBV2 := Lib.hid hbV2
      clear hu hum hnx hfl ob rr huf hbV hbV2 kE
      go_wp2_with fail
      refine (outnums_any B S _ _ bv' (fieldsE u) _ 10 _ ((OB.out.call HBV.out).call HBV2.out) (by
        rw [List.length_append]
        have : (fieldsE u).length = 10 := rfl
        omega) (fun n hn => ?_) (fresh_row (fieldsE u) _ rfl (by omega)) (by have := HBV2.out.size; omega)).mono ?_
      · obtain ⟨f1, f2, f3, f4, f5, f6, f7, f8, f9, f10, -⟩ := HUF.out
        simp [fieldsE] at hn
        rcases hn with rfl | rfl | rfl | rfl | rfl | rfl | rfl | rfl | rfl | rfl <;> assumption
      rintro e w4 ⟨rfl, ⟨bv4, ob4⟩, r4⟩
      have OB4 := Lib.hid ob4
      have R4 := Lib.hid (((RR.out.trans (OutR.of HBV.out (by omega))).trans (OutR.of HBV2.out (by omega))).trans r4)
      clear ob4 r4 q0 q1 q2 q3 q4 q5 q6 q7 q8 q9 cE hV
      go_wp2_with fail
      go_roundw
      case rel =>
        refine ⟨k + 1, by go_num, by omega, ⟨bv4, ?_⟩, R4.out⟩
        rw [HNX.out, outL_append, badL_append, ← List.append_assoc, ← Bool.or_assoc]
        exact OB4.out
      case measure => simp [intOf]; omega
    · obtain rfl : k = g.us.length := by omega
      rw [List.take_length] at ob
      have e : PRE ++ g.us.flatMap fieldsE = elderN g := by rw [← HPRE.out]; rfl
      rw [e] at ob
      go_wp2_with fail
      go_end0
      exact ⟨rfl, ⟨bv', ob⟩, R3.out.trans rr⟩
end Go.Proofs.Ytlfljlhppigejab
namespace Go.Proofs.Ytlfljlhppigejab
open Go.RowKit

def fieldsN (u : U) : List Int := [u.id, u.owner, u.kind, u.x, u.y, u.hp, u.does, u.gx, u.gy, u.target, u.since]
/-- A newer state's numbers. -/
def newerN (g : G) : List Int := [g.tick, g.g0, g.g1, g.next, (g.us.length : Int)] ++ g.us.flatMap fieldsN

set_option maxHeartbeats 6400000 in
set_option maxRecDepth 100000 in
theorem outnewer_any (g : G) (B S : Nat) (bs : List UInt8) (bad : Bool) (bv : Value) (ua : Option Addr) (cu : Nat) (w : World) (h : OutB w B S bv (u8V bs) bad) (hlen : bs.length ≤ 500000) (h20 : g.us.length ≤ 1000) (hfit : g.Fits)
    (hu : URow true B w ua g.us) (hBw : B ≤ w.heap.size) :
    Calls Try.prog 64 #[.pointer (some ⟨S, 0, none⟩), .agg #[.int .i64 g.tick, .int .i64 g.g0, .int .i64 g.g1, .int .i64 g.next, .slice ua g.us.length cu]] w
      fun e w' => e = .returned (.tuple #[]) ∧ (∃ bv', OutB w' B S bv' (u8V (bs ++ outL (newerN g))) (bad || badL (newerN g))) ∧ OutR B S w w' := by
  have hBS := h.1
  have hSl : S < w.heap.size := by obtain ⟨p, -, k⟩ := h.cell; exact k.lt
  obtain ⟨W, hW⟩ : ∃ W, w.alloc (.cells #[.int .i64 g.tick, .int .i64 g.g0, .int .i64 g.g1, .int .i64 g.next, .slice ua g.us.length cu] 32) = W := ⟨_, rfl⟩
  have hbW : Below w.heap.size w W := by rw [← hW]; exact (Below.refl _ _).alloc (Nat.le_refl _) _
  have fxK : Fx W w.heap.size #[.int .i64 g.tick, .int .i64 g.g0, .int .i64 g.g1, .int .i64 g.next, .slice ua g.us.length cu] 32 := by rw [← hW]; exact Fx.new w _ _
  have rW : OutR B S w W := OutR.of hbW hBw
  have HU := Lib.hid hu
  have HFIT := Lib.hid hfit
  have FXK := Lib.hid fxK
  have RW := Lib.hid rW
  have OBW := Lib.hid (h.call hbW)
  have hsW := hbW.size
  obtain ⟨lK, cK, -⟩ := id fxK.blk
  have hul : Fits64 (g.us.length : Int) := ⟨by omega, by omega⟩
  clear h hu hfit hbW fxK rW
  go_enter Try.func64, Try.ntmps64
  go_upto_region 1 with fail
  try rw [hW]
  clear hW
  go_wp2_with fail
  have hb1 : Below W.heap.size W (W.alloc (.cells #[.int .i64 g.tick, .int .i64 g.g0, .int .i64 g.g1, .int .i64 g.next, .int .i64 g.us.length] 3)) := (Below.refl _ _).alloc (Nat.le_refl _) _
  refine (outnums_any B S bs bad bv [g.tick, g.g0, g.g1, g.next, (g.us.length : Int)] _ 5 _ (OBW.out.call hb1) (by simp; omega) (fun n hn => ?_) (fresh_row [g.tick, g.g0, g.g1, g.next, (g.us.length : Int)] _ rfl (by omega)) (by have := hb1.size; omega)).mono ?_
  · obtain ⟨f1, f2, f3, f4, -⟩ := HFIT.out
    simp at hn
    rcases hn with rfl | rfl | rfl | rfl | rfl <;> assumption
  rintro e w1 ⟨rfl, ⟨bv1, ob1⟩, r1⟩
  have R1 := Lib.hid ((RW.out.trans (OutR.of hb1 (by omega))).trans r1)
  have fx1 := (FXK.out.call hb1).out r1 (by omega) (by decide)
  obtain ⟨lK1, cK1, -⟩ := id fx1.blk
  have FX1 := Lib.hid fx1
  have OB1 := Lib.hid ob1
  have hs1 := R1.out.below.size
  clear hb1 ob1 r1 fx1 cK lK
  obtain ⟨PRE, hPRE⟩ : ∃ l, [g.tick, g.g0, g.g1, g.next, (g.us.length : Int)] = l := ⟨_, rfl⟩
  have hpl : PRE.length ≤ 1006 := by rw [← hPRE]; simp
  rw [hPRE] at OB1
  have HPRE := Lib.hid hPRE
  clear hPRE
  have hn0 : (0 : Int) ≤ (g.us.length : Int) := by omega
  go_wp2_with fail
  go_loopw [25] (fun i wr => ∃ k : Nat, i = .int .i64 k ∧ k ≤ g.us.length ∧ ((∃ bv', OutB wr B S bv' (u8V (bs ++ outL (PRE ++ (g.us.take k).flatMap fieldsN))) (bad || badL (PRE ++ (g.us.take k).flatMap fieldsN))) ∧ OutR B S w1 wr)) (fun i _ => (g.us.length - intOf i).toNat)
  case atStart => exact ⟨0, rfl, by omega, ⟨bv1, by simpa using OB1.out⟩, OutR.refl _ _ _⟩
  case round =>
    obtain ⟨k, rfl, hk, ⟨bv', ob⟩, rr⟩ := hrel
    have RR := Lib.hid rr
    have hszr := rr.below.size
    by_cases hlt : k < g.us.length
    · obtain ⟨u, hu⟩ : ∃ u, g.us.getD k zeroU = u := ⟨_, rfl⟩
      have hum : u ∈ g.us := by rw [← hu, getD_lt hlt]; exact List.getElem_mem hlt
      obtain ⟨b, o, hua, hbB, q0, q1, q2, q3, q4, q5, q6, q7, q8, q9, q10⟩ := (HU.out.below (R1.out.trans rr).below).getN k hlt u hu
      subst hua
      have hbr : b < wr.heap.size := by omega
      have hki : (0 : Int) ≤ (k : Int) := by omega
      have hkl : (k : Int) < (g.us.length : Int) := by omega
      have hnx : PRE ++ (g.us.take (k + 1)).flatMap fieldsN = PRE ++ (g.us.take k).flatMap fieldsN ++ fieldsN u := by
        rw [take_at hlt, hu, List.flatMap_append]
        simp
      have hfl : ∀ m, ((g.us.take m).flatMap fieldsN).length ≤ 11 * m := fun m => by
        have e : ∀ l : List U, (l.flatMap fieldsN).length = 11 * l.length := fun l => by
          induction l with
          | nil => rfl
          | cons x l ih => rw [List.flatMap_cons, List.length_append, ih]; simp [fieldsN]; omega
        rw [e, List.length_take]
        omega
      have hLl := outL_length (PRE ++ (g.us.take k).flatMap fieldsN)
      rw [List.length_append] at hLl
      have hf2 := hfl k
      have huf := HFIT.out.2.2.2.2.2 u hum
      have HNX := Lib.hid hnx
      have OB := Lib.hid ob
      have HUF := Lib.hid huf
      obtain ⟨V, hV⟩ : ∃ V, wr.alloc (.cells #[.int .i64 u.id, .int .i64 u.owner, .int .i64 u.kind, .int .i64 u.x, .int .i64 u.y, .int .i64 u.hp, .int .i64 u.does, .int .i64 u.gx, .int .i64 u.gy, .int .i64 u.target, .int .i64 u.since] 142) = V := ⟨_, rfl⟩
      have hbV : Below wr.heap.size wr V := by rw [← hV]; exact (Below.refl _ _).alloc (Nat.le_refl _) _
      have kE : Blk V wr.heap.size #[.int .i64 u.id, .int .i64 u.owner, .int .i64 u.kind, .int .i64 u.x, .int .i64 u.y, .int .i64 u.hp, .int .i64 u.does, .int .i64 u.gx, .int .i64 u.gy, .int .i64 u.target, .int .i64 u.since] := by rw [← hV]; exact Blk.new wr _ _
      have hbV2 : Below V.heap.size V (V.alloc (.cells #[.int .i64 u.id, .int .i64 u.owner, .int .i64 u.kind, .int .i64 u.x, .int .i64 u.y, .int .i64 u.hp, .int .i64 u.does, .int .i64 u.gx, .int .i64 u.gy, .int .i64 u.target, .int .i64 u.since] 3)) := (Below.refl _ _).alloc (Nat.le_refl _) _
      have hsV := hbV.size
      obtain ⟨lE, cE, -⟩ := id kE
      have HBV := Lib.hid hbV
      have HBV2 := Lib.hid hbV2
      clear hu hum hnx hfl ob rr huf hbV hbV2 kE
      go_wp2_with fail
      refine (outnums_any B S _ _ bv' (fieldsN u) _ 11 _ ((OB.out.call HBV.out).call HBV2.out) (by
        rw [List.length_append]
        have : (fieldsN u).length = 11 := rfl
        omega) (fun n hn => ?_) (fresh_row (fieldsN u) _ rfl (by omega)) (by have := HBV2.out.size; omega)).mono ?_
      · obtain ⟨f1, f2, f3, f4, f5, f6, f7, f8, f9, f10, f11⟩ := HUF.out
        simp [fieldsN] at hn
        rcases hn with rfl | rfl | rfl | rfl | rfl | rfl | rfl | rfl | rfl | rfl | rfl <;> assumption
      rintro e w4 ⟨rfl, ⟨bv4, ob4⟩, r4⟩
      have OB4 := Lib.hid ob4
      have R4 := Lib.hid (((RR.out.trans (OutR.of HBV.out (by omega))).trans (OutR.of HBV2.out (by omega))).trans r4)
      clear ob4 r4 q0 q1 q2 q3 q4 q5 q6 q7 q8 q9 q10 cE hV
      go_wp2_with fail
      go_roundw
      case rel =>
        refine ⟨k + 1, by go_num, by omega, ⟨bv4, ?_⟩, R4.out⟩
        rw [HNX.out, outL_append, badL_append, ← List.append_assoc, ← Bool.or_assoc]
        exact OB4.out
      case measure => simp [intOf]; omega
    · obtain rfl : k = g.us.length := by omega
      rw [List.take_length] at ob
      have e : PRE ++ g.us.flatMap fieldsN = newerN g := by rw [← HPRE.out]; rfl
      rw [e] at ob
      go_wp2_with fail
      go_end0
      exact ⟨rfl, ⟨bv', ob⟩, R1.out.trans rr⟩
end Go.Proofs.Ytlfljlhppigejab
namespace Go.Proofs.Ytlfljlhppigejab
open Go.RowKit

theorem Try.cellsU8 : Try.prog.cellsOf 5 = 1 := by kernel_rfl
set_option maxHeartbeats 1600000 in
set_option maxRecDepth 100000 in
theorem string_any (B S : Nat) (bv : Value) (bs : List UInt8) (bad : Bool) (w : World) (h : OutB w B S bv (u8V bs) bad) (h0 : bs ≠ []) :
    Calls Try.prog 54 #[.pointer (some ⟨S, 0, none⟩)] w fun e w' => e = .returned (.string (bstr bs)) ∧ Below B w w' := by
  obtain ⟨hB, ⟨p, -, hbk⟩, hown, hne⟩ := h
  have hl0 : bs.length ≠ 0 := by simpa using h0
  rw [u8V_length] at hown
  obtain ⟨g, cap, cur, rfl, hbg, hg, hnc, hcm, hcs, htake⟩ : ∃ g cap cur, bv = .slice (some ⟨g, 0, none⟩) bs.length cap ∧ B ≤ g ∧ w.heap[g]? = some (.cells cur 5 (0, 0)) ∧ bs.length ≤ cap ∧ cap ≤ maxLen ∧ cur.size = cap * 1 ∧ cur.toList.take (bs.length * 1) = u8V bs := by
    rcases hown.2 with ⟨_, hz⟩ | ⟨g, cap, cur, hv, r⟩
    · exact absurd hz hl0
    · exact ⟨g, cap, cur, hv, r⟩
  have c1 : w.drew.cell? ⟨S, 1, none⟩ = some (.slice (some ⟨g, 0, none⟩) bs.length cap) := by
    have : w.drew.heap[S]? = some (.cells #[p, .slice (some ⟨g, 0, none⟩) bs.length cap, .bool bad] 107 (0, 0)) := hbk
    rw [Lib.cell_of_heap this]; rfl
  have hSD : (Builtin.unsafeSliceData_ #[103] 163 #[.slice (some ⟨g, 0, none⟩) bs.length cap]).run Try.prog w.drew = .ok (.pointer (some ⟨g, 0, none⟩)) w.drew :=
    Lib.run_unsafeSliceData_row _ _ _ _ _ _ (by omega)
  have hUS : (Builtin.unsafeString_ #[163, 3] 9 #[.pointer (some ⟨g, 0, none⟩), .int .i64 bs.length]).run Try.prog w.drew = .ok (.string (bstr bs)) (w.drew.freeze ⟨g, 0, none⟩ bs.length) := by
    refine Lib.run_unsafeString_row w.drew 163 3 9 5 Try.underlying163 Try.cellsU8 g cur.size (by have hg' : w.drew.heap[g]? = some (.cells cur 5 (0, 0)) := hg; simp [World.shape?, hg']) bs h0 (by omega) (by unfold maxLen at hcm; omega) ?_
    intro j x hx
    have := hown.cells (g := g) rfl j (.int .u8 x.toNat) (by simp [u8V, hx])
    exact this
  have HSD := hSD
  have HBG := Lib.hid hbg
  clear hown hne hbk hg hnc hcs htake
  go_enter Try.func54, Try.ntmps54
  go_wp2_with fail
  go_region
  all_goals (go_wp2_with fail; go_ret; exact ⟨rfl, Lib.below_freeze (Below.drew (Below.refl B w)) (p := ⟨g, 0, none⟩) HBG.out _⟩)
end Go.Proofs.Ytlfljlhppigejab
