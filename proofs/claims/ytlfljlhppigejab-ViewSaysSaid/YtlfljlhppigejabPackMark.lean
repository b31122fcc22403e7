/-
  A row of integers that is owned, read as a row. The mark of a view, exactly: the walk of view.Mark. (Printed by mk_viewmark.py.) The walk of the document's MarkOf: the same mark.
-/
import Derived.Test.YtlfljlhppigejabElderGame
import Derived.Test.YtlfljlhppigejabPackVw
import Derived.Deep.AppendLies
namespace Go.Proofs.Ytlfljlhppigejab
open Go.RowKit

/-- A row of integers that is owned. -/
theorem ints_at {w : World} {B n : Nat} {v : Value} {l : List Int} (hn : l.length = n) (h : w.ownsRow B 3 1 v n (intCells l)) : ∃ a c, v = .slice a n c ∧ Row w.heap.size w a n (fun k => .int .i64 (l.getD k 0)) := by
  subst hn
  rcases h.2 with ⟨h1, h2⟩ | ⟨f, cap, cur, h1, -, -, h4, h5, -⟩
  · exact ⟨none, 0, by rw [h1, h2], fun k hk => by omega⟩
  · have hown := h
    subst h1
    refine ⟨_, cap, rfl, ?_⟩
    intro k hk
    refine ⟨f, 0, rfl, (World.ownsRow.lt hown f rfl).2, ?_⟩
    have := World.ownsRow.cellAt hown k (by omega)
    rw [Nat.zero_add, this]
    unfold intCells
    rw [List.getElem?_map, List.getElem?_eq_getElem hk]
    simp [List.getD, hk]
end Go.Proofs.Ytlfljlhppigejab
namespace Go.Proofs.Ytlfljlhppigejab
open Go.RowKit

/-- A step of the mark. -/
def hashS (v n : Int) : Int := IntKind.u64.wrap (IntKind.u64.wrap ((BitVec.ofInt 64 v ^^^ BitVec.ofInt 64 (IntKind.u64.wrap n)).toNat : Int) * 1099511628211)
def numsSn (s : Sn) : List Int := [s.x, s.y, s.owner, s.kind, s.hp, s.does, s.gx, s.gy, s.tx, s.ty]
def hashSn (v : Int) (s : Sn) : Int := (numsSn s).foldl hashS v
def markF (tick g0 g1 : Int) (xs : List Sn) : Int := xs.foldl hashSn (([tick, g0, g1, (xs.length : Int)]).foldl hashS 14695981039346656037)
def numsV (tick g0 g1 : Int) (xs : List Sn) : List Int := [tick, g0, g1, (xs.length : Int)] ++ xs.flatMap numsSn
theorem markF_nums (tick g0 g1 : Int) (xs : List Sn) : (numsV tick g0 g1 xs).foldl hashS 14695981039346656037 = markF tick g0 g1 xs := by
  unfold numsV markF
  rw [List.foldl_append, List.foldl_flatMap]
  rfl
theorem foldl_at {α β : Type} {l : List α} {k : Nat} (hk : k < l.length) (f : β → α → β) (s : β) (z x : α) (hx : l.getD k z = x) : (l.take (k + 1)).foldl f s = f ((l.take k).foldl f s) x := by
  rw [List.take_succ_eq_append_getElem hk, List.foldl_append]
  have : l[k] = x := by rw [← hx]; simp [List.getD, hk]
  rw [this]
  rfl

set_option maxHeartbeats 1600000 in
theorem adde_any (H b o n cl : Nat) (hbH : b ≠ H) (hn : n ≤ 100000) (l : List Int) (hl : l.length = n) (v : Int) (w : World) (hb : b < w.heap.size) (hr : ∀ k, k < n → w.cell? ⟨b, o + k, none⟩ = some (.int .i64 (l.getD k 0))) (hH : Blk w H #[.int .u64 v]) :
    Calls Try.prog 75 #[.slice (some ⟨b, o, none⟩) n cl, .pointer (some ⟨H, 0, none⟩)] w fun e w' => e = .returned (.tuple #[]) ∧ Blk w' H #[.int .u64 (l.foldl hashS v)] ∧ Kp (fun c => c = H) w w' := by
  have HR := Lib.hid hr
  have HH := Lib.hid hH
  clear hr hH
  go_enter Try.func75, Try.ntmps75
  go_wp2_with fail
  go_loopw [4, 7] (fun _ i wr => ∃ k : Nat, i = .int .i64 k ∧ k ≤ n ∧ (Blk wr H #[.int .u64 ((l.take k).foldl hashS v)] ∧ Kp (fun c => c = H) w wr)) (fun _ i _ => (n - intOf i).toNat)
  case atStart => exact ⟨0, rfl, by omega, HH.out, Kp.refl _ _⟩
  case round =>
    obtain ⟨k, rfl, hk, hb', kp⟩ := hrel
    obtain ⟨v', hv⟩ : ∃ x, (l.take k).foldl hashS v = x := ⟨_, rfl⟩
    rw [hv] at hb'
    by_cases hlt : k < n
    · obtain ⟨q, hq⟩ : ∃ q, l.getD k 0 = q := ⟨_, rfl⟩
      have hc := HR.out k hlt
      rw [hq] at hc
      have hnx : (l.take (k + 1)).foldl hashS v = hashS v' q := by rw [foldl_at (by omega) hashS v 0 q hq, hv]
      have HNX := Lib.hid hnx
      clear hnx hq hv
      rw [← kp.cell b (o + k) hb hbH] at hc
      have hszr := kp.size
      have hbr : b < wr.heap.size := by omega
      have hki : (0 : Int) ≤ (k : Int) := by omega
      have hkl : (k : Int) < (n : Int) := by omega
      obtain ⟨l1, c1, f1⟩ := id hb'
      have HB := Lib.hid hb'
      have KP := Lib.hid kp
      clear hb' kp
      go_wp2_with fail
      go_roundw
      case rel => exact ⟨k + 1, by go_num, by omega, (by rw [HNX.out]; exact HB.out.store (.int .u64 (hashS v' q)) (i := 0) (by simp)), KP.out.andset _ _ rfl⟩
      case measure => simp [intOf]; omega
    · have HB := Lib.hid hb'
      have KP := Lib.hid kp
      clear hb' kp
      go_wp2_with fail
      go_end0
      obtain rfl : k = n := by omega
      exact ⟨rfl, by have := HB.out; rw [← hv, ← hl, List.take_length] at this; exact this, KP.out⟩

set_option maxHeartbeats 3200000 in
set_option maxRecDepth 100000 in
theorem marke_any (tick g0 g1 : Int) (a : Option Addr) (cp : Nat) (xs : List Sn) (hn : xs.length ≤ 100000) (w : World) (hs : SRow w.heap.size w a xs) :
    Calls Try.prog 37 #[.agg #[.int .i64 tick, .int .i64 g0, .int .i64 g1, .slice a xs.length cp]] w fun e w' => e = .returned (.int .u64 (markF tick g0 g1 xs)) ∧ Below w.heap.size w w' := by
  have HS := Lib.hid hs
  clear hs
  go_enter Try.func37, Try.ntmps37
  go_upto_region 3 with fail
  obtain ⟨W, hW⟩ : ∃ W, (w.alloc (.cells #[.int .i64 tick, .int .i64 g0, .int .i64 g1, .slice a xs.length cp] 61)).alloc (.cells #[.int .u64 14695981039346656037] 74) = W := ⟨_, rfl⟩
  have hWs : W.heap.size = w.heap.size + 2 := by rw [← hW]; simp
  have k1 : Blk W w.heap.size #[.int .i64 tick, .int .i64 g0, .int .i64 g1, .slice a xs.length cp] := by rw [← hW]; exact (Blk.new w _ _).alloc _
  have k2 : Blk W (w.heap.size + 1) #[.int .u64 14695981039346656037] := by
    rw [← hW]
    have := Blk.new (w.alloc (.cells #[.int .i64 tick, .int .i64 g0, .int .i64 g1, .slice a xs.length cp] 61)) #[.int .u64 14695981039346656037] 74
    simpa using this
  have hb : Below w.heap.size w W := by rw [← hW]; exact ((Below.refl _ _).alloc (Nat.le_refl _) _).alloc (by simp) _
  rw [hW]
  clear hW
  have HB := Lib.hid hb
  have K1 := Lib.hid k1
  have K2 := Lib.hid k2
  obtain ⟨l1, c1, -⟩ := id k1
  clear hb k1 k2
  go_wp2_with fail
  refine (adde_any (w.heap.size + 1) (w.heap.size + 2) 0 4 4 (by omega) (by omega) [tick, g0, g1, (xs.length : Int)] rfl 14695981039346656037 _ (by simp; omega) (fun k hk => ?_) (K2.out.alloc _)).mono ?_
  · have hk' : k = 0 ∨ k = 1 ∨ k = 2 ∨ k = 3 := by omega
    rw [Nat.zero_add, ← hWs, World.cell?_alloc_new]
    rcases hk' with rfl | rfl | rfl | rfl <;> rfl
  rintro e w1 ⟨rfl, kb, kp⟩
  obtain ⟨v0, hv0⟩ : ∃ x, (([tick, g0, g1, (xs.length : Int)]).foldl hashS 14695981039346656037) = x := ⟨_, rfl⟩
  rw [hv0] at kb
  have HV0 := Lib.hid hv0
  clear hv0
  have hb1 : Below w.heap.size w w1 := (HB.out.alloc (by omega) _).trans (kp.below (fun k hk => by have h : k = w.heap.size + 1 := hk; omega) (by simp; omega))
  have k11 : Blk w1 w.heap.size #[.int .i64 tick, .int .i64 g0, .int .i64 g1, .slice a xs.length cp] := by
    have h1 := K1.out.alloc (.cells #[.int .i64 tick, .int .i64 g0, .int .i64 g1, .int .i64 xs.length] 3)
    exact ⟨Nat.lt_of_lt_of_le h1.lt kp.size, fun i => (kp.cell _ _ h1.lt (by omega)).trans (h1.cell i), fun i => (kp.frozen _ _ h1.lt (by omega)).trans (h1.free i)⟩
  have HB1 := Lib.hid hb1
  have KB := Lib.hid kb
  have hs1 := hb1.size
  obtain ⟨l11, c11, -⟩ := id k11
  have HS1 := Lib.hid (HS.out.below hb1)
  clear hb1 kb kp k11 l1 c1
  have hn0 : (0 : Int) ≤ (xs.length : Int) := by omega
  go_wp2_with fail
  go_loopw [25] (fun i wr => ∃ k : Nat, i = .int .i64 k ∧ k ≤ xs.length ∧ (Blk wr (w.heap.size + 1) #[.int .u64 ((xs.take k).foldl hashSn v0)] ∧ Kp (fun c => c = w.heap.size + 1) w1 wr)) (fun i _ => (xs.length - intOf i).toNat)
  case atStart => exact ⟨0, rfl, by omega, KB.out, Kp.refl _ _⟩
  case round =>
    obtain ⟨k, rfl, hk, hb', kp⟩ := hrel
    obtain ⟨v', hv⟩ : ∃ x, (xs.take k).foldl hashSn v0 = x := ⟨_, rfl⟩
    rw [hv] at hb'
    have hszr := kp.size
    by_cases hlt : k < xs.length
    · obtain ⟨s, hs⟩ : ∃ s, xs.getD k default = s := ⟨_, rfl⟩
      have HNX := Lib.hid (show (xs.take (k + 1)).foldl hashSn v0 = hashSn v' s by rw [foldl_at hlt hashSn _ default s hs, hv])
      clear hv
      obtain ⟨b, o, rfl, hbB, q0, q1, q2, q3, q4, q5, q6, q7, q8, q9⟩ := HS1.out.get k hlt s hs
      have hcc := fun (j : Nat) => kp.cell b j (by omega) (by omega)
      rw [← hcc] at q0 q1 q2 q3 q4 q5 q6 q7 q8 q9
      have hbr : b < wr.heap.size := by omega
      have hki : (0 : Int) ≤ (k : Int) := by omega
      have hkl : (k : Int) < (xs.length : Int) := by omega
      have HBW := Lib.hid hb'
      have KP := Lib.hid kp
      clear hb' kp hs hcc
      go_wp2_with fail
      refine (adde_any (w.heap.size + 1) (wr.heap.size + 1) 0 10 10 (by omega) (by omega) (numsSn s) rfl v' _ (by simp) (fun j hj => ?_) ((HBW.out.alloc _).alloc _)).mono ?_
      · have hj' : j = 0 ∨ j = 1 ∨ j = 2 ∨ j = 3 ∨ j = 4 ∨ j = 5 ∨ j = 6 ∨ j = 7 ∨ j = 8 ∨ j = 9 := by omega
        have := World.cell?_alloc_new (wr.alloc (.cells #[.int .i64 s.x, .int .i64 s.y, .int .i64 s.owner, .int .i64 s.kind, .int .i64 s.hp, .int .i64 s.does, .int .i64 s.gx, .int .i64 s.gy, .int .i64 s.tx, .int .i64 s.ty] 136)) #[.int .i64 s.x, .int .i64 s.y, .int .i64 s.owner, .int .i64 s.kind, .int .i64 s.hp, .int .i64 s.does, .int .i64 s.gx, .int .i64 s.gy, .int .i64 s.tx, .int .i64 s.ty] 3 j
        rw [World.size_alloc] at this
        rw [Nat.zero_add, this]
        rcases hj' with rfl | rfl | rfl | rfl | rfl | rfl | rfl | rfl | rfl | rfl <;> rfl
      rintro e w2 ⟨rfl, kb2, kp2⟩
      have kp3 : Kp (fun c => c = w.heap.size + 1) w1 w2 := ((KP.out.then_ (((Below.refl _ _).alloc (Nat.le_refl _) _).alloc (by simp) _)).trans kp2 (fun _ _ h => h))
      have KB2 := Lib.hid kb2
      have KP3 := Lib.hid kp3
      clear kb2 kp2 kp3 q0 q1 q2 q3 q4 q5 q6 q7 q8 q9
      go_wp2_with fail
      go_roundw
      case rel => exact ⟨k + 1, by go_num, by omega, (by rw [HNX.out]; exact KB2.out), KP3.out⟩
      case measure => simp [intOf]; omega
    · obtain ⟨l, c, f⟩ := id hb'
      have KP := Lib.hid kp
      clear hb' kp
      go_wp2_with fail
      go_ret
      obtain rfl : k = xs.length := by omega
      have e : markF tick g0 g1 xs = v' := by unfold markF; rw [HV0.out, ← hv, List.take_length]
      exact ⟨by rw [e]; rfl, HB1.out.trans (KP.out.below (fun k hk => by have h : k = w.heap.size + 1 := hk; omega) (by omega))⟩
end Go.Proofs.Ytlfljlhppigejab
namespace Go.Proofs.Ytlfljlhppigejab
open Go.RowKit
attribute [local go_sem] qOne qAt qUp qOneK

theorem list_run_appendV {P : Program} {ops : Array Oper} {rest : List Oper} {o : Oper} {a : Act} {w : World} {Q : Exit → Act → World → Prop} (hgd : o.guard = none) (s x : Operand) (t ty : TypeId)
    (ho : o.op = .call { callee := .builtin .append, args := #[s, x], argTypes := #[t, t] }) (hty : o.type = ty) {u v v' : Value} {w' : World} (hs : a.eval s = u) (hx : a.eval x = v)
    (hr : (Builtin.append_ #[t, t] ty #[u, v]).run P w = .ok v' w') (h : wpList P ops Q rest (a.put o.dst v') w') : wpList P ops Q (o :: rest) a w := by
  refine wpList_plain hgd fun K hK => ?_
  subst hty
  unfold Oper.wp execOp
  simp only [ho, resolve, invoke, builtin, Sem.run_bind, Sem.run_pure, Result.andThen_ok, List.map_toArray, List.map_cons, List.map_nil, hs, hx, hr]
  exact hK _ _ h
theorem infoIntV : (Try.prog.info? 3).map (fun i => (i.zero, i.size, i.bytes)) = some (some (.int .i64 0), 1, 8) := by kernel_rfl
/-- The numbers that are marked, of the first k. -/
def numsK (tick g0 g1 : Int) (xs : List Sn) (k : Nat) : List Int := [tick, g0, g1, (xs.length : Int)] ++ (xs.take k).flatMap numsSn
theorem numsK_length (tick g0 g1 : Int) (xs : List Sn) {k : Nat} (hk : k ≤ xs.length) : (numsK tick g0 g1 xs k).length = 4 + 10 * k := by
  have h : ∀ l : List Sn, (l.flatMap numsSn).length = l.length * 10 := fun l => by
    induction l with
    | nil => rfl
    | cons s l ih => rw [List.flatMap_cons, List.length_append, ih, List.length_cons]; show 10 + _ = _; omega
  unfold numsK
  rw [List.length_append, h, List.length_take, Nat.min_eq_left hk]
  show 4 + _ = _
  omega
theorem numsK_next (tick g0 g1 : Int) (xs : List Sn) {k : Nat} (hk : k < xs.length) {s : Sn} (hs : xs.getD k default = s) : numsK tick g0 g1 xs (k + 1) = numsK tick g0 g1 xs k ++ numsSn s := by
  unfold numsK
  rw [List.take_succ_eq_append_getElem hk, List.flatMap_append, List.append_assoc]
  have : xs[k] = s := by rw [← hs]; simp [List.getD, hk]
  rw [this]
  simp
theorem numsK_all (tick g0 g1 : Int) (xs : List Sn) : numsK tick g0 g1 xs xs.length = numsV tick g0 g1 xs := by unfold numsK numsV; rw [List.take_length]
theorem intCells_append (a b : List Int) : intCells (a ++ b) = intCells a ++ intCells b := by simp [intCells]

set_option maxHeartbeats 6400000 in
set_option maxRecDepth 100000 in
theorem refmarkof_any (tick g0 g1 : Int) (a : Option Addr) (cp : Nat) (xs : List Sn) (hn : xs.length ≤ 1000) (w : World) (hs : SRow w.heap.size w a xs) :
    Calls Try.prog 38 #[.agg #[.int .i64 tick, .int .i64 g0, .int .i64 g1, .slice a xs.length cp]] w fun e w' => e = .returned (.int .u64 (markF tick g0 g1 xs)) ∧ Below w.heap.size w w' := by
  obtain ⟨i1, hj0, hj1, hj2, hj3⟩ := info_parts infoIntV
  obtain ⟨W, hW⟩ : ∃ W, w.alloc (.cells #[.int .i64 tick, .int .i64 g0, .int .i64 g1, .slice a xs.length cp] 61) = W := ⟨_, rfl⟩
  have k1 : Blk W w.heap.size #[.int .i64 tick, .int .i64 g0, .int .i64 g1, .slice a xs.length cp] := by rw [← hW]; exact Blk.new w _ _
  have hb : Below w.heap.size w W := by rw [← hW]; exact (Below.refl _ _).alloc (Nat.le_refl _) _
  have hsW := hb.size
  have HB := Lib.hid hb
  have K1 := Lib.hid k1
  have HS := Lib.hid (hs.below hb)
  obtain ⟨l1, c1, -⟩ := id k1
  have hn0 : (0 : Int) ≤ (xs.length : Int) := by omega
  have HI := Lib.hid (⟨hj0, hj1, hj2, hj3⟩ : _ ∧ _ ∧ _ ∧ _)
  clear hs hb k1 hj0 hj1 hj2 hj3
  go_enter Try.func38, Try.ntmps38
  go_upto_region 1 with fail
  try rw [hW]
  clear hW
  go_upto_region 2 with fail
  refine gen_world (fun V => Below W.heap.size W V ∧ V.ownsRow W.heap.size 3 1 (.slice (some ⟨W.heap.size, 0, none⟩) 4 4) 4 (intCells (numsK tick g0 g1 xs 0))) ⟨(Below.refl _ _).alloc (Nat.le_refl _) _, ⟨rfl, .inr ⟨W.heap.size, 4, _, rfl, Nat.le_refl _, heap_alloc_new W _, Nat.le_refl _, by unfold maxLen; omega, rfl, rfl⟩⟩⟩ ?_
  rintro V ⟨hbV, oV⟩
  obtain ⟨pr, hpr⟩ : ∃ x, (some ⟨W.heap.size, 0, none⟩ : Option Addr) = x := ⟨_, rfl⟩
  rw [hpr] at oV
  try rw [hpr]
  have HBV := Lib.hid hbV
  have OV := Lib.hid oV
  clear hpr hbV oV c1 l1
  go_wp2_with fail
  go_loopw [3, 4, 5] (fun rv kv _ wr => ∃ (k : Nat) (ra : Option Addr) (rc : Nat), rv = .slice ra (4 + 10 * k) rc ∧ kv = .int .i64 k ∧ (k ≤ xs.length ∧ Below W.heap.size W wr ∧ wr.ownsRow W.heap.size 3 1 (.slice ra (4 + 10 * k) rc) (4 + 10 * k) (intCells (numsK tick g0 g1 xs k)))) (fun _ kv _ _ => (xs.length - intOf kv).toNat)
  case atStart => exact ⟨0, pr, 4, rfl, rfl, by omega, HBV.out, OV.out⟩
  case round =>
    obtain ⟨k, ra, rc, rfl, rfl, hk, hX, own⟩ := hrel
    have HX := Lib.hid hX
    have HO := Lib.hid own
    have hsz := hX.size
    obtain ⟨l5, c5, -⟩ := id (K1.out.call hX)
    have hki : (0 : Int) ≤ (k : Int) := by omega
    by_cases hlt : k < xs.length
    · obtain ⟨s, hs⟩ : ∃ s, xs.getD k default = s := ⟨_, rfl⟩
      obtain ⟨b, o, rfl, hbB, q0, q1, q2, q3, q4, q5, q6, q7, q8, q9⟩ := (HS.out.below (hX.mono hsW)).get k hlt s hs
      have HNX := Lib.hid (numsK_next tick g0 g1 xs hlt hs)
      have hbr : b < wr.heap.size := by omega
      have hkl : (k : Int) < (xs.length : Int) := by omega
      clear hs hX own
      go_upto_region 6 with fail
      refine gen_world (fun Z => Below wr.heap.size wr Z ∧ Blk Z wr.heap.size #[.int .i64 s.x, .int .i64 s.y, .int .i64 s.owner, .int .i64 s.kind, .int .i64 s.hp, .int .i64 s.does, .int .i64 s.gx, .int .i64 s.gy, .int .i64 s.tx, .int .i64 s.ty]) ⟨(Below.refl _ _).alloc (Nat.le_refl _) _, Blk.new wr _ _⟩ ?_
      rintro Z ⟨hbZ, kZ⟩
      obtain ⟨ps, hps⟩ : ∃ x, wr.heap.size = x := ⟨_, rfl⟩
      rw [hps] at kZ
      try rw [hps]
      obtain ⟨lz, cz, -⟩ := id kZ
      have hZW : Below W.heap.size W Z := HX.out.trans (hbZ.mono hsz)
      have ownZ := own_kp HO.out (kp_of hbZ (fun _ => False)) (fun _ _ x => x)
      have hbN : Below Z.heap.size Z (Z.alloc (.cells #[.int .i64 s.x, .int .i64 s.y, .int .i64 s.owner, .int .i64 s.kind, .int .i64 s.hp, .int .i64 s.does, .int .i64 s.gx, .int .i64 s.gy, .int .i64 s.tx, .int .i64 s.ty] 3)) := (Below.refl _ _).alloc (Nat.le_refl _) _
      obtain ⟨gg, cap, y3, r2, o2, k3, -, -⟩ := run_append_lies (P := Try.prog) (Z.alloc (.cells #[.int .i64 s.x, .int .i64 s.y, .int .i64 s.owner, .int .i64 s.kind, .int .i64 s.hp, .int .i64 s.does, .int .i64 s.gx, .int .i64 s.gy, .int .i64 s.tx, .int .i64 s.ty] 3)) 23 23 W.heap.size 3 i1 _ 1 8 Try.underlying23 HI.out.1 HI.out.2.1 HI.out.2.2.1 HI.out.2.2.2 rfl (by omega)
        (.slice ra (4 + 10 * k) rc) (4 + 10 * k) (intCells (numsK tick g0 g1 xs k)) (own_kp ownZ (kp_of hbN (fun _ => False)) (fun _ _ x => x)) ⟨Z.heap.size, 0, none⟩ 10 10 (intCells (numsSn s)) rfl (World.news_of_block (heap_alloc_new Z _)) (fun q hq => by obtain ⟨n, -, rfl⟩ := List.mem_map.1 hq; rfl) (by omega) (by unfold maxLen; omega) (by omega) (by have := hZW.size; simp; omega) _ rfl
      have h3 : Below W.heap.size W y3 := by
        have kk : Kp (fun b => W.heap.size ≤ b) (Z.alloc (.cells #[.int .i64 s.x, .int .i64 s.y, .int .i64 s.owner, .int .i64 s.kind, .int .i64 s.hp, .int .i64 s.does, .int .i64 s.gx, .int .i64 s.gy, .int .i64 s.tx, .int .i64 s.ty] 3)) y3 := (Kp.grown k3).imp (fun b _ hb => (World.ownsRow.lt ownZ b hb.symm).1)
        exact (hZW.trans (hbN.mono hZW.size)).trans (kk.below (fun _ h => h) (by have := hZW.size; simp; omega))
      have H3 := Lib.hid h3
      rw [← intCells_append, ← HNX.out, show 4 + 10 * k + 10 = 4 + 10 * (k + 1) from by omega] at o2
      rw [show 4 + 10 * k + 10 = 4 + 10 * (k + 1) from by omega] at r2
      have O2 := Lib.hid o2
      clear q0 q1 q2 q3 q4 q5 q6 q7 q8 q9 hbZ kZ hps hZW ownZ hbN k3 o2 h3 c5 l5
      go_wp2_with (at_builtin; refine list_run_appendV (by rfl) _ _ _ _ (by rfl) (by rfl) (by rfl) (by rfl) r2 ?_)
      go_roundw
      case rel => exact ⟨k + 1, some ⟨gg, 0, none⟩, cap, rfl, by go_num, by omega, H3.out, O2.out⟩
      case measure => simp [intOf]; omega
    · obtain rfl : k = xs.length := by omega
      have hbE : Below w.heap.size w wr := HB.out.trans (hX.mono hsW)
      have HBE := Lib.hid hbE
      obtain ⟨L, hL⟩ : ∃ L, numsV tick g0 g1 xs = L := ⟨_, rfl⟩
      obtain ⟨m, hm⟩ : ∃ m, 4 + 10 * xs.length = m := ⟨_, rfl⟩
      have hLm : L.length = m := by rw [← hL, ← numsK_all, numsK_length _ _ _ _ (Nat.le_refl _), hm]
      have hMF : markF tick g0 g1 xs = L.foldl hashS 14695981039346656037 := by rw [← hL, markF_nums]
      have HMF := Lib.hid hMF
      have own2 := own
      rw [numsK_all, hL, hm] at own2
      obtain ⟨ra', rc', er, hrow⟩ := ints_at hLm own2
      cases er
      rw [hm]
      have HR := Lib.hid hrow
      have HLM := Lib.hid hLm
      have hm1 : m ≤ 20000 := by omega
      clear own own2 HO hX hbE hrow hL hm hMF hLm
      go_wp2_with fail
      go_loopw [6, 7] (fun hv jv wz => ∃ j : Nat, hv = .int .u64 ((L.take j).foldl hashS 14695981039346656037) ∧ jv = .int .i64 j ∧ (j ≤ m ∧ wr = wz)) (fun _ jv _ => (m - intOf jv).toNat)
      case atStart => exact ⟨0, rfl, rfl, by omega, rfl⟩
      case round =>
        obtain ⟨j, rfl, rfl, hj, rfl⟩ := hrel
        obtain ⟨v', hv⟩ : ∃ x, (L.take j).foldl hashS 14695981039346656037 = x := ⟨_, rfl⟩
        rw [hv]
        have hji : (0 : Int) ≤ (j : Int) := by omega
        by_cases hlt2 : j < m
        · obtain ⟨q, hq⟩ : ∃ q, L.getD j 0 = q := ⟨_, rfl⟩
          obtain ⟨b, o, rfl, hbB, hc⟩ := HR.out j hlt2
          dsimp only at hc
          rw [hq] at hc
          have HNX := Lib.hid (show (L.take (j + 1)).foldl hashS 14695981039346656037 = hashS v' q by rw [foldl_at (by have := HLM.out; omega) hashS _ 0 q hq, hv])
          have hjl : (j : Int) < (m : Int) := by omega
          clear hv hq
          go_wp2_with fail
          go_roundw
          case rel => exact ⟨j + 1, by rw [HNX.out]; rfl, by go_num, by omega, trivial⟩
          case measure => simp [intOf]; omega
        · obtain rfl : j = m := by omega
          have HV := Lib.hid hv
          clear hv
          go_wp2_with fail
          go_ret
          refine ⟨?_, HBE.out⟩
          rw [HMF.out, ← HV.out, ← HLM.out, List.take_length]
          rfl
end Go.Proofs.Ytlfljlhppigejab
