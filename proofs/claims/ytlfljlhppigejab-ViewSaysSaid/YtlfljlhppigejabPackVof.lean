/-
  The document's game as it is read: its block, its units; the walk of who. The walk of the document's ViewOf: all that are there, by rows. (Printed by gen_viewof.py.) What the views of a state are, for the law ViewSays: the document's view, or none at all.
-/
import Derived.Test.YtlfljlhppigejabPackRef
import Derived.Test.YtlfljlhppigejabViewPure
import Derived.Test.YtlfljlhppigejabPackBase
import Derived.Deep.AppendLies
import Derived.Test.YtlfljlhppigejabViewNew
import Derived.Test.YtlfljlhppigejabPackSame
import Derived.Test.YtlfljlhppigejabPackPure
import Derived.Test.YtlfljlhppigejabPackWire
namespace Go.Proofs.Ytlfljlhppigejab
open Go.RowKit

/-- A game of the document's that is read. -/
structure Reads (w : World) (S : Nat) (n : Bool) (us : List U) (ua : Option Addr) (m cu : Nat) : Prop where
  lt : S < w.heap.size
  c0 : w.cell? ⟨S, 0, none⟩ = some (.bool n)
  c6 : w.cell? ⟨S, 6, none⟩ = some (.slice ua m cu)
  row : URow true w.heap.size w ua us
  len : us.length = m
  few : m ≤ 1000
theorem Reads.call {w w' : World} {S : Nat} {n : Bool} {us : List U} {ua : Option Addr} {m cu : Nat} (h : Reads w S n us ua m cu) (hb : Below w.heap.size w w') : Reads w' S n us ua m cu :=
  ⟨Nat.lt_of_lt_of_le h.lt hb.size, (hb.cell (p := ⟨S, _, none⟩) h.lt).trans h.c0, (hb.cell (p := ⟨S, _, none⟩) h.lt).trans h.c6, (h.row.below hb).mono hb.size, h.len, h.few⟩
theorem GR.reads {w : World} {B S : Nat} {g : G} {born : List Int} {fv bv : Value} {ua : Option Addr} {m cu : Nat} (h : GR w B S g born fv (.slice ua m cu) bv) (hn : g.us.length = m) (hm : m ≤ 1000) : Reads w S g.new g.us ua m cu := by
  subst hn
  obtain ⟨a, c, e, -, h2, -⟩ := URow.of_ownN h.us
  cases e
  exact ⟨h.blk.lt, h.blk.cell 0, h.blk.cell 6, h2, rfl, hm⟩
theorem Reads.who {w : World} {S : Nat} {n : Bool} {us : List U} {ua : Option Addr} {m cu : Nat} (h : Reads w S n us ua m cu) (id : Int) (x : Cw w) :
    Calls Try.prog 73 #[.pointer (some ⟨S, 0, none⟩), .int .i64 id] x.w fun e w' => e = .returned (.int .i64 (ixOf us id)) ∧ x.w = w' :=
  who_any S ua m cu us id h.len (by have := h.few; omega) x.w (h.call x.below).c6 (h.call x.below).row
end Go.Proofs.Ytlfljlhppigejab
namespace Go.Proofs.Ytlfljlhppigejab
open Go.RowKit
attribute [local go_sem] qOne qAt qUp qOneK

/-- A view under way: its block p, its row. -/
structure VI (W wr : World) (p : Nat) (g : G) (L : List Sn) : Prop where
  bel : Below W.heap.size W wr
  at_ : ∃ va vc, Blk wr p #[.int .i64 g.tick, .int .i64 g.g0, .int .i64 g.g1, .slice va L.length vc] ∧ wr.ownsRow W.heap.size 136 10 (.slice va L.length vc) L.length (seenAll L) ∧ ∀ b, (Value.slice va L.length vc).ownBlock = some b → b ≠ p
theorem VI.call {W wr wr' : World} {p : Nat} {g : G} {L : List Sn} (h : VI W wr p g L) (hb : Below wr.heap.size wr wr') : VI W wr' p g L := by
  obtain ⟨h1, va, vc, h2, h3, h4⟩ := h
  exact ⟨h1.trans (hb.mono h1.size), va, vc, h2.call hb, own_kp h3 (kp_of hb (fun _ => False)) (fun _ _ x => x), h4⟩
theorem spotL_le (us : List U) (x y : Nat) {k : Nat} (_hk : k ≤ us.length) : (spotL us x y k).length ≤ (spotL us x y us.length).length := by
  unfold spotL
  rw [List.length_map, List.length_map, List.take_length]
  exact ((List.take_sublist k us).filter (atSpot x y)).length_le
theorem rowL_le (us : List U) (y x : Nat) : ∀ d, (rowL us y x).length ≤ (rowL us y (x + d)).length := by
  intro d
  induction d with
  | zero => exact Nat.le_refl _
  | succ d ih => rw [show x + (d + 1) = (x + d) + 1 from by omega, rowL_next, List.length_append]; omega
theorem rowsL_le (us : List U) (y : Nat) : ∀ d, (rowsL us y).length ≤ (rowsL us (y + d)).length := by
  intro d
  induction d with
  | zero => exact Nat.le_refl _
  | succ d ih => rw [show y + (d + 1) = (y + d) + 1 from by omega, rowsL_next, List.length_append]; omega
/-- What is told so far. -/
def toldL (us : List U) (y x k : Nat) : List Sn := rowsL us y ++ rowL us y x ++ spotL us x y k
theorem toldL_few (us : List U) {y x k : Nat} (hy : y < 12) (hx : x < 12) (hk : k ≤ us.length) : (toldL us y x k).length ≤ (viewL us).length := by
  unfold toldL viewL
  rw [List.length_append, List.length_append]
  have h1 := spotL_le us x y hk
  have h2 := rowL_le us y (x + 1) (12 - (x + 1))
  rw [show x + 1 + (12 - (x + 1)) = 12 from by omega, rowL_next, List.length_append] at h2
  have h3 := rowsL_le us (y + 1) (12 - (y + 1))
  rw [show y + 1 + (12 - (y + 1)) = 12 from by omega, rowsL_next, List.length_append] at h3
  omega
theorem toldL_zero (us : List U) (y x : Nat) : toldL us y x 0 = rowsL us y ++ rowL us y x := by unfold toldL; rw [spotL_zero, List.append_nil]
theorem toldL_end (us : List U) (y x : Nat) : toldL us y x us.length = rowsL us y ++ rowL us y (x + 1) := by unfold toldL; rw [rowL_next, List.append_assoc]
theorem toldL_skip {us : List U} {y x k : Nat} (hk : k < us.length) {u : U} (hu : us.getD k zeroU = u) (h : ¬ (u.x = (x : Int) ∧ u.y = (y : Int))) : toldL us y x (k + 1) = toldL us y x k := by unfold toldL; rw [spotL_next hk hu, if_neg h]
theorem toldL_more {us : List U} {y x k : Nat} (hk : k < us.length) {u : U} (hu : us.getD k zeroU = u) (h : u.x = (x : Int) ∧ u.y = (y : Int)) : toldL us y x (k + 1) = toldL us y x k ++ [seenR us u] := by unfold toldL; rw [spotL_next hk hu, if_pos h]; simp [List.append_assoc]

theorem list_run_appendS {P : Program} {ops : Array Oper} {rest : List Oper} {o : Oper} {a : Act} {w : World} {Q : Exit → Act → World → Prop} (hgd : o.guard = none) (s x : Operand) (t ty : TypeId)
    (ho : o.op = .call { callee := .builtin .append, args := #[s, x], argTypes := #[t, t] }) (hty : o.type = ty) {u v v' : Value} {w' : World} (hs : a.eval s = u) (hx : a.eval x = v)
    (hr : (Builtin.append_ #[t, t] ty #[u, v]).run P w = .ok v' w') (h : wpList P ops Q rest (a.put o.dst v') w') : wpList P ops Q (o :: rest) a w := by
  refine wpList_plain hgd fun K hK => ?_
  subst hty
  unfold Oper.wp execOp
  simp only [ho, resolve, invoke, builtin, Sem.run_bind, Sem.run_pure, Result.andThen_ok, List.map_toArray, List.map_cons, List.map_nil, hs, hx, hr]
  exact hK _ _ h
theorem Blk.store89 {w : World} {S : Nat} {a0 a1 a2 a3 a4 a5 a6 a7 a8 a9 : Value} (h : Blk w S #[a0, a1, a2, a3, a4, a5, a6, a7, a8, a9]) (x y : Value) :
    Blk ((w.setCell ⟨S, 8, none⟩ x).setCell ⟨S, 9, none⟩ y) S #[a0, a1, a2, a3, a4, a5, a6, a7, x, y] := by
  have := (h.store x (i := 8) (by simp)).store y (i := 9) (by simp)
  simpa using this
/-- One more is told: an append of one that lies in a new block, and the store of the row. -/
theorem VI.append {W Y : World} {p : Nat} {g : G} {tl : List Sn} (sn : Sn) (h : VI W Y p g tl) (hl : tl.length ≤ 1000) (C : Array Value) (hC : C.toList = encSn sn) :
    ∃ va vc, Blk Y p #[.int .i64 g.tick, .int .i64 g.g0, .int .i64 g.g1, .slice va tl.length vc] ∧ ∃ gg cap y3, (Builtin.append_ #[59, 59] 59 #[.slice va tl.length vc, .slice (some ⟨Y.heap.size, 0, none⟩) 1 1]).run Try.prog (Y.alloc (.cells C 136)) = .ok (.slice (some ⟨gg, 0, none⟩) (tl.length + 1) cap) y3 ∧
      Blk y3 p #[.int .i64 g.tick, .int .i64 g.g0, .int .i64 g.g1, .slice va tl.length vc] ∧ (W.heap.size ≤ p → VI W (y3.setCell ⟨p, 3, none⟩ (.slice (some ⟨gg, 0, none⟩) (tl.length + 1) cap)) p g (tl ++ [sn])) := by
  obtain ⟨h1, va, vc, kp, own, nb⟩ := h
  obtain ⟨i1, hj0, hj1, hj2, hj3⟩ := infoSeen
  have hbN : Below Y.heap.size Y (Y.alloc (.cells C 136)) := (Below.refl _ _).alloc (Nat.le_refl _) _
  have ownN := own_kp own (kp_of hbN (fun _ => False)) (fun _ _ x => x)
  have kN := kp.call hbN
  have hp := kp.lt
  obtain ⟨gg, cap, y3, r2, o2, k3, hgg, -⟩ := run_append_lies (P := Try.prog) (Y.alloc (.cells C 136)) 59 59 W.heap.size 136 i1 _ 10 80 Try.underlying59 hj0 hj1 hj2 hj3 rfl (by omega)
    (.slice va tl.length vc) tl.length (seenAll tl) ownN ⟨Y.heap.size, 0, none⟩ 1 1 (encSn sn) rfl (by rw [← hC]; exact World.news_of_block (heap_alloc_new Y _)) (encSn_one sn) (by omega) (by unfold maxLen; omega) (by omega) (by have := h1.size; simp; omega) _ rfl
  have kk := Kp.grown k3
  have kB := kN.kp kk (fun e => nb p e.symm rfl)
  have hgp : gg ≠ p := by
    rcases hgg with e | e
    · exact nb gg e
    · rw [e]; simp; omega
  refine ⟨va, vc, kp, gg, cap, y3, r2, kB, fun hpW => ?_⟩
  have hsl : (tl ++ [sn]).length = tl.length + 1 := by simp
  have b3 : Below W.heap.size W y3 := by
    have k4 : Kp (fun b => W.heap.size ≤ b) (Y.alloc (.cells C 136)) y3 := kk.imp (fun b _ hb => (World.ownsRow.lt own b hb.symm).1)
    exact (h1.trans (hbN.mono h1.size)).trans (k4.below (fun _ h => h) (by have := h1.size; simp; omega))
  refine ⟨b3.setCell hpW _, some ⟨gg, 0, none⟩, cap, ?_, ?_, ?_⟩
  · have := kB.store (.slice (some ⟨gg, 0, none⟩) (tl.length + 1) cap) (i := 3) (by simp)
    rw [hsl]
    simpa using this
  · rw [hsl, seenAll_append]
    have e : seenAll [sn] = encSn sn := by simp [seenAll]
    rw [e]
    refine own_kp o2 (Kp.setCell y3 ⟨p, 3, none⟩ _) (fun b hb => ?_)
    cases hb
    exact hgp
  · intro b hb
    rw [hsl] at hb
    cases hb
    exact hgp

set_option maxHeartbeats 12800000 in
set_option maxRecDepth 100000 in
theorem refviewof_any (B S : Nat) (g : G) (born : List Int) (fv bv : Value) (ua : Option Addr) (m cu : Nat) (w : World) (h : GR w B S g born fv (.slice ua m cu) bv) (hn : g.us.length = m) (hm : m ≤ 1000) (hlen : (viewL g.us).length ≤ 1000) :
    Calls Try.prog 32 #[.pointer (some ⟨S, 0, none⟩)] w fun e w' => ∃ a c, e = .returned (.agg #[.int .i64 g.tick, .int .i64 g.g0, .int .i64 g.g1, .slice a (viewL g.us).length c]) ∧ SRow w'.heap.size w' a (viewL g.us) ∧ Below w.heap.size w w' := by
  obtain ⟨W, hW⟩ : ∃ W, w.alloc (.cells #[.int .i64 0, .int .i64 0, .int .i64 0, .slice none 0 0] 61) = W := ⟨_, rfl⟩
  have hbW : Below w.heap.size w W := by rw [← hW]; exact (Below.refl _ _).alloc (Nat.le_refl _) _
  have kR : Blk W w.heap.size #[.int .i64 0, .int .i64 0, .int .i64 0, .slice none 0 0] := by rw [← hW]; exact Blk.new w _ _
  have hG := h.call hbW
  have cS0 := hG.blk.cell
  have lS := hG.blk.lt
  have c1 : W.cell? ⟨S, 1, none⟩ = some (.int .i64 g.tick) := cS0 1
  have c2 : W.cell? ⟨S, 2, none⟩ = some (.int .i64 g.g0) := cS0 2
  have c3 : W.cell? ⟨S, 3, none⟩ = some (.int .i64 g.g1) := cS0 3
  have HR := Lib.hid (hG.reads hn hm)
  have HB := Lib.hid hbW
  have KR := Lib.hid kR
  have hsW := hbW.size
  have HLEN := Lib.hid hlen
  have HN := Lib.hid hn
  clear h hG hbW kR cS0 hlen
  go_enter Try.func32, Try.ntmps32
  go_upto_region 1 with fail
  try rw [hW]
  clear hW
  haveI := Cw.ne W
  have hcw := fun (x : Cw W) => x.cell
  refine region_loose 9 (by kernel_rfl) (by kernel_rfl) ?_
  repeat (refine wpQB_step (fun K hK => ?_); go_simp; refine hK _ ?_; clear hK K)
  refine wpQB_nil ?_
  refine tail_var (T := 61) (d := 3) (r := 18) (c := #[.int .i64 g.tick, .int .i64 g.g0, .int .i64 g.g1, .slice none 0 0]) #[.int .i64 0, .int .i64 0, .int .i64 0, .slice none 0 0] rfl rfl rfl rfl (fun _ => rfl) (fun w => by simp [go_sem]) (fun _ => rfl) (by simp) rfl (by kernel_rfl) (by simp [Value.oneCell']) (fun p => ?_)
  refine tail_nil ?_
  rintro V ⟨hbV, hpV, kV⟩
  have HV : Hid (VI W V p g (rowsL g.us 0)) := Lib.hid ⟨hbV, none, 0, by rw [rowsL_zero]; exact kV, by rw [rowsL_zero]; exact World.ownsRow_nil _ _ _ _, fun b hb => (by cases hb)⟩
  have HPV := Lib.hid hpV
  clear hbV hpV kV c1 c2 c3 lS hcw
  go_wp2_with fail
  go_loopw [4, 5, 6, 7, 8, 9] (fun yv _ _ _ _ _ wr => ∃ y : Nat, yv = .int .i64 y ∧ y ≤ 12 ∧ VI W wr p g (rowsL g.us y)) (fun yv _ _ _ _ _ _ => (12 - intOf yv).toNat)
  case atStart => exact ⟨0, rfl, by omega, HV.out⟩
  case round =>
    obtain ⟨y, rfl, hy, hv⟩ := hrel
    have HV1 := Lib.hid hv
    clear hv
    by_cases hy2 : y < 12
    · have hyl : (y : Int) < 12 := by omega
      go_wp2_with fail
      go_loopw [5, 6, 7, 8, 9] (fun xv _ _ _ _ wr2 => ∃ x : Nat, xv = .int .i64 x ∧ x ≤ 12 ∧ VI W wr2 p g (rowsL g.us y ++ rowL g.us y x)) (fun xv _ _ _ _ _ => (12 - intOf xv).toNat)
      case atStart => exact ⟨0, rfl, by omega, by rw [rowL_zero, List.append_nil]; exact HV1.out⟩
      case round =>
        obtain ⟨x, rfl, hx, hv⟩ := hrel
        have HV2 := Lib.hid hv
        clear hv
        by_cases hx2 : x < 12
        · have hxl : (x : Int) < 12 := by omega
          go_wp2_with fail
          go_loopw [6, 7, 8, 9] (fun iv _ _ _ wz => ∃ k : Nat, iv = .int .i64 k ∧ k ≤ m ∧ VI W wz p g (toldL g.us y x k)) (fun iv _ _ _ _ => (m - intOf iv).toNat)
          case atStart => exact ⟨0, rfl, by omega, by rw [toldL_zero]; exact HV2.out⟩
          case round =>
            obtain ⟨k, rfl, hk, hv⟩ := hrel
            have HV3 := Lib.hid hv
            have hR := HR.out.call hv.bel
            have c6 := hR.c6
            have lS := hR.lt
            have HR3 := Lib.hid hR
            clear hv hR
            by_cases hk2 : k < m
            · obtain ⟨u, hu⟩ : ∃ u, g.us.getD k zeroU = u := ⟨_, rfl⟩
              have hkn : k < g.us.length := by have := HN.out; omega
              obtain ⟨b, o, ea, hbB, q0, q1, q2, q3, q4, q5, q6, q7, q8, q9, q10⟩ := HR3.out.row.getN k hkn u hu
              subst ea
              have hki : (0 : Int) ≤ (k : Int) := by omega
              have hkl : (k : Int) < (m : Int) := by omega
              have HU := Lib.hid hu
              clear hu
              by_cases hs1 : u.x = (x : Int)
              case neg =>
                have d1 : (u.x != (x : Int)) = true := by rw [bne_iff_ne]; exact hs1
                have HSK := Lib.hid (toldL_skip (y := y) (x := x) hkn HU.out (fun h => hs1 h.1))
                clear hs1
                go_wp2_with fail
                go_roundw
                case rel => exact ⟨k + 1, by go_num, by omega, by rw [HSK.out]; exact HV3.out.call ((Below.refl _ _).alloc (Nat.le_refl _) _)⟩
                case measure => simp [intOf]; omega
              have d1 : (u.x != (x : Int)) = false := by rw [bne_eq_false_iff_eq]; exact hs1
              by_cases hs2 : u.y = (y : Int)
              case neg =>
                have d2 : (u.y != (y : Int)) = true := by rw [bne_iff_ne]; exact hs2
                have HSK := Lib.hid (toldL_skip (y := y) (x := x) hkn HU.out (fun h => hs2 h.2))
                clear hs1 hs2
                go_wp2_with fail
                go_roundw
                case rel => exact ⟨k + 1, by go_num, by omega, by rw [HSK.out]; exact HV3.out.call ((Below.refl _ _).alloc (Nat.le_refl _) _)⟩
                case measure => simp [intOf]; omega
              have d2 : (u.y != (y : Int)) = false := by rw [bne_eq_false_iff_eq]; exact hs2
              have HMO := Lib.hid (toldL_more (y := y) (x := x) hkn HU.out ⟨hs1, hs2⟩)
              have HXY := Lib.hid (⟨hs1, hs2⟩ : u.x = (x : Int) ∧ u.y = (y : Int))
              clear hs1 hs2
              go_upto_region 14 with fail
              refine gen_world (fun Z => Below wr.heap.size wr Z ∧ Blk Z wr.heap.size #[.int .i64 u.id, .int .i64 u.owner, .int .i64 u.kind, .int .i64 u.x, .int .i64 u.y, .int .i64 u.hp, .int .i64 u.does, .int .i64 u.gx, .int .i64 u.gy, .int .i64 u.target, .int .i64 u.since] ∧ Blk Z (wr.heap.size + 1) #[.int .i64 (x : Nat), .int .i64 (y : Nat), .int .i64 u.owner, .int .i64 u.kind, .int .i64 u.hp, .int .i64 u.does, .int .i64 u.gx, .int .i64 u.gy, .int .i64 (-1), .int .i64 (-1)]) ⟨((Below.refl _ _).alloc (Nat.le_refl _) _).alloc (by simp) _, (Blk.new _ _ _).alloc _, by
                have := Blk.new (wr.alloc (.cells #[.int .i64 u.id, .int .i64 u.owner, .int .i64 u.kind, .int .i64 u.x, .int .i64 u.y, .int .i64 u.hp, .int .i64 u.does, .int .i64 u.gx, .int .i64 u.gy, .int .i64 u.target, .int .i64 u.since] 142)) #[.int .i64 (x : Nat), .int .i64 (y : Nat), .int .i64 u.owner, .int .i64 u.kind, .int .i64 u.hp, .int .i64 u.does, .int .i64 u.gx, .int .i64 u.gy, .int .i64 (-1), .int .i64 (-1)] 136
                rw [World.size_alloc] at this
                exact this⟩ ?_
              rintro Z ⟨hbZ, kU, kS⟩
              obtain ⟨ps, hps⟩ : ∃ q, wr.heap.size + 1 = q := ⟨_, rfl⟩
              rw [hps] at kS
              try rw [hps]
              have hRZ := HR3.out.call hbZ
              have hWHO := hRZ.who u.target ⟨Z, Below.refl _ _⟩
              dsimp only at hWHO
              obtain ⟨IX, hIX⟩ : ∃ q, ixOf g.us u.target = q := ⟨_, rfl⟩
              have hir := ixOf_range g.us u.target
              rw [hIX] at hWHO hir
              obtain ⟨hir1, hir2⟩ := hir
              have HIX := Lib.hid hIX
              have HWHO := Lib.hid hWHO
              have HRZ := Lib.hid hRZ
              have HVZ := Lib.hid (HV3.out.call hbZ)
              have KS := Lib.hid kS
              obtain ⟨lU, cU, -⟩ := id kU
              obtain ⟨lQ, cQ, fQ⟩ := id kS
              have hpsl : wr.heap.size ≤ ps := by omega
              have HBZ := Lib.hid hbZ
              clear hbZ kU kS hps hRZ hWHO hIX q0 q1 q2 q3 q4 q5 q6 q7 q8 q9 q10
              go_wp2_with fail
              refine HWHO.out.mono ?_
              rintro e w' ⟨rfl, rfl⟩
              clear HWHO
              by_cases ht : 0 < u.target
              case neg =>
                have HSN := Lib.hid (show seenR g.us u = ⟨u.x, u.y, u.owner, u.kind, u.hp, u.does, u.gx, u.gy, -1, -1⟩ from by unfold seenR; rw [if_neg (by rw [HIX.out]; omega)])

                go_upto_region 18 with fail
                refine gen_world (fun Y => Below wr.heap.size wr Y ∧ Blk Y ps #[.int .i64 (x : Nat), .int .i64 (y : Nat), .int .i64 u.owner, .int .i64 u.kind, .int .i64 u.hp, .int .i64 u.does, .int .i64 u.gx, .int .i64 u.gy, .int .i64 (-1), .int .i64 (-1)]) ⟨HBZ.out, KS.out⟩ ?_
                rintro Y ⟨hbY, kY⟩
                obtain ⟨lY, cY, fY⟩ := id kY
                have hVY := HV3.out.call hbY
                have hfew := toldL_few g.us (y := y) (x := x) (k := k) hy2 hx2 (by omega)
                have hlen := HLEN.out
                obtain ⟨sn, hsn⟩ : ∃ q, seenR g.us u = q := ⟨_, rfl⟩
                have hC : #[.int .i64 (x : Nat), .int .i64 (y : Nat), .int .i64 u.owner, .int .i64 u.kind, .int .i64 u.hp, .int .i64 u.does, .int .i64 u.gx, .int .i64 u.gy, .int .i64 (-1), .int .i64 (-1)].toList = encSn sn := by
                  rw [← hsn, HSN.out]
                  have h1 := HXY.out.1
                  have h2 := HXY.out.2
                  show _ = [_, _, _, _, _, _, _, _, _, _]
                  rw [h1, h2]
                have HMN := Lib.hid (show toldL g.us y x (k + 1) = toldL g.us y x k ++ [sn] from by rw [← hsn]; exact HMO.out)
                obtain ⟨tl, htl⟩ : ∃ q, toldL g.us y x k = q := ⟨_, rfl⟩
                rw [htl] at hVY hfew HMN
                obtain ⟨va, vc, kp, gg, cap, y3, r2, kB, hvi⟩ := hVY.append sn (by omega) #[.int .i64 (x : Nat), .int .i64 (y : Nat), .int .i64 u.owner, .int .i64 u.kind, .int .i64 u.hp, .int .i64 u.does, .int .i64 u.gx, .int .i64 u.gy, .int .i64 (-1), .int .i64 (-1)] hC
                have HVE := Lib.hid (hvi HPV.out)
                obtain ⟨lp, cp, fp⟩ := id kp
                obtain ⟨l3, c3, f3⟩ := id kB
                clear hbY kY hVY hfew hlen hC htl kp kB hvi HMO HXY hsn HSN
                go_wp2_with (at_builtin; refine list_run_appendS (by rfl) _ _ _ _ (by rfl) (by rfl) (by rfl) (by rfl) r2 ?_)
                go_roundw
                case rel => exact ⟨k + 1, by go_num, by omega, by rw [HMN.out]; exact HVE.out⟩
                case measure => simp [intOf]; omega
              by_cases hk : 0 ≤ IX
              case neg =>
                have HSN := Lib.hid (show seenR g.us u = ⟨u.x, u.y, u.owner, u.kind, u.hp, u.does, u.gx, u.gy, -1, -1⟩ from by unfold seenR; rw [if_neg (by rw [HIX.out]; omega)])

                go_upto_region 18 with fail
                refine gen_world (fun Y => Below wr.heap.size wr Y ∧ Blk Y ps #[.int .i64 (x : Nat), .int .i64 (y : Nat), .int .i64 u.owner, .int .i64 u.kind, .int .i64 u.hp, .int .i64 u.does, .int .i64 u.gx, .int .i64 u.gy, .int .i64 (-1), .int .i64 (-1)]) ⟨HBZ.out, KS.out⟩ ?_
                rintro Y ⟨hbY, kY⟩
                obtain ⟨lY, cY, fY⟩ := id kY
                have hVY := HV3.out.call hbY
                have hfew := toldL_few g.us (y := y) (x := x) (k := k) hy2 hx2 (by omega)
                have hlen := HLEN.out
                obtain ⟨sn, hsn⟩ : ∃ q, seenR g.us u = q := ⟨_, rfl⟩
                have hC : #[.int .i64 (x : Nat), .int .i64 (y : Nat), .int .i64 u.owner, .int .i64 u.kind, .int .i64 u.hp, .int .i64 u.does, .int .i64 u.gx, .int .i64 u.gy, .int .i64 (-1), .int .i64 (-1)].toList = encSn sn := by
                  rw [← hsn, HSN.out]
                  have h1 := HXY.out.1
                  have h2 := HXY.out.2
                  show _ = [_, _, _, _, _, _, _, _, _, _]
                  rw [h1, h2]
                have HMN := Lib.hid (show toldL g.us y x (k + 1) = toldL g.us y x k ++ [sn] from by rw [← hsn]; exact HMO.out)
                obtain ⟨tl, htl⟩ : ∃ q, toldL g.us y x k = q := ⟨_, rfl⟩
                rw [htl] at hVY hfew HMN
                obtain ⟨va, vc, kp, gg, cap, y3, r2, kB, hvi⟩ := hVY.append sn (by omega) #[.int .i64 (x : Nat), .int .i64 (y : Nat), .int .i64 u.owner, .int .i64 u.kind, .int .i64 u.hp, .int .i64 u.does, .int .i64 u.gx, .int .i64 u.gy, .int .i64 (-1), .int .i64 (-1)] hC
                have HVE := Lib.hid (hvi HPV.out)
                obtain ⟨lp, cp, fp⟩ := id kp
                obtain ⟨l3, c3, f3⟩ := id kB
                clear hbY kY hVY hfew hlen hC htl kp kB hvi HMO HXY hsn HSN
                go_wp2_with (at_builtin; refine list_run_appendS (by rfl) _ _ _ _ (by rfl) (by rfl) (by rfl) (by rfl) r2 ?_)
                go_roundw
                case rel => exact ⟨k + 1, by go_num, by omega, by rw [HMN.out]; exact HVE.out⟩
                case measure => simp [intOf]; omega
              obtain ⟨j, rfl⟩ : ∃ j : Nat, IX = j := ⟨IX.toNat, by omega⟩
              have hjn : j < g.us.length := by omega
              obtain ⟨t, htt⟩ : ∃ t, g.us.getD j zeroU = t := ⟨_, rfl⟩
              have HSN := Lib.hid (show seenR g.us u = ⟨u.x, u.y, u.owner, u.kind, u.hp, u.does, u.gx, u.gy, t.x, t.y⟩ from by unfold seenR; rw [if_pos (by rw [HIX.out]; omega), HIX.out, Int.toNat_natCast, htt])
              obtain ⟨b2, o2, ea2, hbB2, p0, p1, p2, p3, p4, p5, p6, p7, p8, p9, p10⟩ := HRZ.out.row.getN j hjn t htt
              cases ea2
              have c6z := HRZ.out.c6
              have lSz := HRZ.out.lt
              have hji : (0 : Int) ≤ (j : Int) := by omega
              have hjl : (j : Int) < (m : Int) := by have := HN.out; omega
              have hne1 : S ≠ ps := by omega
              have hne2 : b ≠ ps := by omega
              clear htt

              go_upto_region 18 with fail
              refine gen_world (fun Y => Below wr.heap.size wr Y ∧ Blk Y ps #[.int .i64 (x : Nat), .int .i64 (y : Nat), .int .i64 u.owner, .int .i64 u.kind, .int .i64 u.hp, .int .i64 u.does, .int .i64 u.gx, .int .i64 u.gy, .int .i64 t.x, .int .i64 t.y]) ⟨(HBZ.out.setCell hpsl _).setCell hpsl _, KS.out.store89 _ _⟩ ?_
              rintro Y ⟨hbY, kY⟩
              obtain ⟨lY, cY, fY⟩ := id kY
              have hVY := HV3.out.call hbY
              have hfew := toldL_few g.us (y := y) (x := x) (k := k) hy2 hx2 (by omega)
              have hlen := HLEN.out
              obtain ⟨sn, hsn⟩ : ∃ q, seenR g.us u = q := ⟨_, rfl⟩
              have hC : #[.int .i64 (x : Nat), .int .i64 (y : Nat), .int .i64 u.owner, .int .i64 u.kind, .int .i64 u.hp, .int .i64 u.does, .int .i64 u.gx, .int .i64 u.gy, .int .i64 t.x, .int .i64 t.y].toList = encSn sn := by
                rw [← hsn, HSN.out]
                have h1 := HXY.out.1
                have h2 := HXY.out.2
                show _ = [_, _, _, _, _, _, _, _, _, _]
                rw [h1, h2]
              have HMN := Lib.hid (show toldL g.us y x (k + 1) = toldL g.us y x k ++ [sn] from by rw [← hsn]; exact HMO.out)
              obtain ⟨tl, htl⟩ : ∃ q, toldL g.us y x k = q := ⟨_, rfl⟩
              rw [htl] at hVY hfew HMN
              obtain ⟨va, vc, kp, gg, cap, y3, r2, kB, hvi⟩ := hVY.append sn (by omega) #[.int .i64 (x : Nat), .int .i64 (y : Nat), .int .i64 u.owner, .int .i64 u.kind, .int .i64 u.hp, .int .i64 u.does, .int .i64 u.gx, .int .i64 u.gy, .int .i64 t.x, .int .i64 t.y] hC
              have HVE := Lib.hid (hvi HPV.out)
              obtain ⟨lp, cp, fp⟩ := id kp
              obtain ⟨l3, c3, f3⟩ := id kB
              clear hbY kY hVY hfew hlen hC htl kp kB hvi HMO HXY hsn HSN
              go_wp2_with (at_builtin; refine list_run_appendS (by rfl) _ _ _ _ (by rfl) (by rfl) (by rfl) (by rfl) r2 ?_)
              go_roundw
              case rel => exact ⟨k + 1, by go_num, by omega, by rw [HMN.out]; exact HVE.out⟩
              case measure => simp [intOf]; omega
            · obtain rfl : k = m := by omega
              go_wp2_with fail
              go_roundw
              case rel => exact ⟨x + 1, by go_num, by omega, by rw [← toldL_end, HN.out]; exact HV3.out⟩
              case measure => simp [intOf]; omega
        · obtain rfl : x = 12 := by omega
          go_wp2_with fail
          go_roundw
          case rel => exact ⟨y + 1, by go_num, by omega, by rw [rowsL_next]; exact HV2.out⟩
          case measure => simp [intOf]; omega
    · obtain rfl : y = 12 := by omega
      obtain ⟨hb1, va, vc, k1, o1, n1⟩ := HV1.out
      have HBE := Lib.hid hb1
      have hrow := SRow.of_own o1
      obtain ⟨sa, sc, esl, hmx, hrow, -⟩ := hrow
      cases esl
      have HROW := Lib.hid hrow
      have KRW := Lib.hid (KR.out.call hb1)
      obtain ⟨lp, cp, -⟩ := id k1
      obtain ⟨lr, cr, fr⟩ := id KRW.out
      have N1 := Lib.hid n1
      have O1 := Lib.hid o1
      clear hb1 k1 o1 n1 hrow
      go_wp2_with fail
      have XK := (((Kp.refl (fun b => b = w.heap.size) wr).andset ⟨w.heap.size, 0, none⟩ (.int .i64 g.tick) rfl).andset ⟨w.heap.size, 1, none⟩ (.int .i64 g.g0) rfl).andset ⟨w.heap.size, 2, none⟩ (.int .i64 g.g1) rfl |>.andset ⟨w.heap.size, 3, none⟩ (.slice va (rowsL g.us 12).length vc) rfl
      refine bodyPost_ret (v := .agg #[.int .i64 g.tick, .int .i64 g.g0, .int .i64 g.g1, .slice va (rowsL g.us 12).length vc]) (ret_cell (d := _) Try.results32 rfl (KRW.out.store4 rfl (.int .i64 g.tick) (.int .i64 g.g0) (.int .i64 g.g1) (.slice va (rowsL g.us 12).length vc)) Try.underlying61 rfl infoView) rfl ?_
      refine ⟨va, vc, rfl, ?_, ?_⟩
      · refine (SRow.kp HROW.out XK (Nat.le_refl _) (n := (rowsL g.us 12).length) (c := vc) (fun b hb hx => ?_)).mono XK.size
        have h1 := (World.ownsRow.lt O1.out b hb).1
        have h2 : b = w.heap.size := hx
        have h3 := KR.out.lt
        omega
      · exact HB.out.trans (HBE.out.mono hsW) |>.trans (XK.below (fun b hb => by have h2 : b = w.heap.size := hb; omega) (by have := HBE.out.size; omega))
end Go.Proofs.Ytlfljlhppigejab
namespace Go.Proofs.Ytlfljlhppigejab
open Go.RowKit

theorem sorted_pairwise {ys : List Sn} (h : Go.Sort.SortedIn ltSn 0 ys.length ys.toArray) : ys.Pairwise (fun a b => ltSn b a = false) := by
  rw [List.pairwise_iff_getElem]
  intro i j hi hj hij
  have h1 := h i j (Nat.zero_le _) hij hj
  simpa [hi, hj] using h1
/-- A view does not hang on what the document's game forgets. -/
theorem seenR_back (n : Bool) (us : List U) (u : U) : seenR (us.map (backU n)) (backU n u) = seenR us u := by
  have hix := ix_ids (ids_back n us) u.target
  have hu : (backU n u).target = u.target := by cases n <;> rfl
  have hxy : ∀ k : Nat, ((us.map (backU n)).getD k zeroU).x = (us.getD k zeroU).x ∧ ((us.map (backU n)).getD k zeroU).y = (us.getD k zeroU).y := fun k => by
    by_cases hk : k < us.length
    · simp only [List.getD, List.getElem?_map, List.getElem?_eq_getElem hk, Option.map_some, Option.getD_some]
      exact ⟨(back_id n _).2.1, (back_id n _).2.2⟩
    · simp [List.getD, hk]
  unfold seenR
  rw [hu, hix, (hxy _).1, (hxy _).2]
  cases n <;> rfl
theorem spotL_back (n : Bool) (us : List U) (x y k : Nat) : spotL (us.map (backU n)) x y k = spotL us x y k := by
  unfold spotL
  rw [← List.map_take, List.filter_map, List.map_map]
  have h1 : (atSpot x y ∘ backU n) = atSpot x y := by funext u; cases n <;> rfl
  have h2 : (seenR (us.map (backU n)) ∘ backU n) = seenR us := by funext u; exact seenR_back n us u
  rw [h1, h2]
theorem viewL_back (n : Bool) (us : List U) : viewL (us.map (backU n)) = viewL us := by
  unfold viewL rowsL rowL
  simp only [spotL_back, List.length_map]
theorem viewL_length {g : G} (h : faultOf g = 0) : (viewL g.us).length = g.us.length ∧ g.us.length ≤ 20 := by
  have hg := (right_iff g).1 h
  have hp := (viewL_perm (us := g.us) (fun u hu => (hg.ok hu).on)).length_eq
  rw [List.length_map] at hp
  exact ⟨hp, hg.few⟩
/-- What a view of a state that is right is. -/
theorem ViewEnd.good {g : G} {w : World} {e : Ending} {w' : World} (h : ViewEnd g w e w') (h0 : faultOf g = 0) :
    ∃ t p0 p1 a c L, e = .returned (.tuple #[.agg #[.int .i64 t, .int .i64 p0, .int .i64 p1, .slice a L.length c], .nilIface]) ∧ SRow w'.heap.size w' a L ∧ L.length ≤ 40 ∧ Below w.heap.size w w' ∧ (t = g.tick ∧ p0 = g.g0 ∧ p1 = g.g1 ∧ L = viewL g.us) := by
  obtain ⟨hb, h⟩ := h
  rcases h with ⟨h, -⟩ | ⟨-, a, c, ys, rfl, hl, hp, hs, hr⟩
  · exact absurd h0 h
  · have hy := view_eq ((right_iff g).1 h0) hp (sorted_pairwise hs)
    subst hy
    have h2 := viewL_length h0
    exact ⟨_, _, _, a, c, _, by rw [h2.1], hr, by omega, hb, rfl, rfl, rfl, rfl⟩
theorem ViewEnd.bad {g : G} {w : World} {e : Ending} {w' : World} (h : ViewEnd g w e w') {f : Nat} (hf : faultOf g = f) (h0 : f ≠ 0) :
    ∃ t p0 p1 a c, ∃ L : List Sn, e = .returned (.tuple #[.agg #[.int .i64 t, .int .i64 p0, .int .i64 p1, .slice a L.length c], errV f]) ∧ SRow w'.heap.size w' a L ∧ L.length ≤ 40 ∧ Below w.heap.size w w' ∧ (t = 0 ∧ p0 = 0 ∧ p1 = 0 ∧ L = []) := by
  obtain ⟨hb, h⟩ := h
  rcases h with ⟨-, h⟩ | ⟨h, -⟩
  · rw [hf] at h
    exact ⟨0, 0, 0, none, 0, [], h, fun i hi => absurd hi (Nat.not_lt_zero i), Nat.zero_le _, hb, rfl, rfl, rfl, rfl⟩
  · exact absurd (hf.symm.trans h) h0
/-- What the document's view of a state that is right is. -/
theorem viewof_back {n : Bool} {g : G} (h0 : faultOf g = 0) {B S : Nat} {born : List Int} {fv uv bv : Value} {w : World} (h : GR w B S (backG n g) born fv uv bv) :
    Calls Try.prog 32 #[.pointer (some ⟨S, 0, none⟩)] w fun e w' => ∃ a c, ∃ L : List Sn, L = viewL g.us ∧ e = .returned (.agg #[.int .i64 g.tick, .int .i64 g.g0, .int .i64 g.g1, .slice a L.length c]) ∧ SRow w'.heap.size w' a L ∧ Below w.heap.size w w' := by
  obtain ⟨ua, m, cu, rfl⟩ : ∃ ua m cu, uv = .slice ua m cu := by
    obtain ⟨ua, cu, e, -⟩ := URow.of_ownN h.us
    exact ⟨_, _, _, e⟩
  have hv := viewL_length h0
  have hm : (backG n g).us.length = m := by
    obtain ⟨ua', cu', e, -⟩ := URow.of_ownN h.us
    cases e
    rfl
  have hl : (backG n g).us.length = g.us.length := by show (g.us.map (backU n)).length = _; rw [List.length_map]
  have hb : viewL (backG n g).us = viewL g.us := viewL_back n g.us
  refine (refviewof_any B S (backG n g) born fv bv ua m cu w h hm (by omega) (by rw [hb]; omega)).mono ?_
  rintro e w' ⟨a, c, rfl, hr, hbl⟩
  rw [hb] at hr ⊢
  exact ⟨a, c, _, rfl, rfl, hr, hbl⟩
theorem sameVw_self (t g0 g1 : Int) (xs : List Sn) : sameVw t g0 g1 t g0 g1 xs xs = true := decide_eq_true ⟨rfl, ⟨rfl, rfl⟩, rfl⟩
theorem sameview_to (t p0 p1 t' q0 q1 : Int) (L K : List Sn) (a b : Option Addr) (ca cb n : Nat) (hn : K.length = n) (hl : L.length ≤ 40) (he : t = t' ∧ p0 = q0 ∧ p1 = q1 ∧ L = K) (w : World) (ha : SRow w.heap.size w a L) (hb : SRow w.heap.size w b K) :
    Calls Try.prog 31 #[.agg #[.int .i64 t, .int .i64 p0, .int .i64 p1, .slice a L.length ca], .agg #[.int .i64 t', .int .i64 q0, .int .i64 q1, .slice b n cb]] w fun e w' => e = .returned (.bool true) ∧ Below w.heap.size w w' := by
  obtain ⟨rfl, rfl, rfl, rfl⟩ := he
  subst hn
  refine (refsameview_any t p0 p1 t p0 p1 L L a b ca cb (by omega) (by omega) w ha hb).mono ?_
  rintro e w' ⟨rfl, h⟩
  exact ⟨by rw [sameVw_self], h⟩
theorem same_none (w : World) : Calls Try.prog 13 #[.nilIface, .int .i64 0] w fun e w' => e = .returned (.bool true) ∧ w = w' := by
  have h := same_any 0 0 w
  rw [errV_zero] at h
  exact h
theorem same_self (f : Nat) (w : World) : Calls Try.prog 13 #[errV f, .int .i64 (f : Nat)] w fun e w' => e = .returned (.bool true) ∧ w = w' := by
  refine (same_any f f w).mono ?_
  rintro e w' ⟨rfl, rfl⟩
  exact ⟨by rw [beq_self_eq_true], rfl⟩
end Go.Proofs.Ytlfljlhppigejab
