/-
  The library's DeleteFunc over the newer game's units: who has no HP left is struck out. (Printed by gen_del.py.)
-/
import Derived.Test.YtlfljlhppigejaaNewToil
import Derived.Test.YtlfljlhppigejaaNewClear
import Derived.Test.YtlfljlhppigejaaElderOwn
namespace Go.Proofs.Ytlfljlhppigejaa
open Go.RowKit
attribute [local go_sem] qOne qAt qUp qOneK

theorem cellsAllN_take (us : List U) (k : Nat) : (cellsAllN us).take (k * 11) = cellsAllN (us.take k) := by
  induction us generalizing k with
  | nil => simp [cellsAllN]
  | cons u us ih =>
    cases k with
    | zero => simp [cellsAllN]
    | succ k =>
      show (cellsN u ++ cellsAllN us).take ((k + 1) * 11) = cellsN u ++ cellsAllN (us.take k)
      rw [List.take_append, cellsN_length, List.take_of_length_le (by rw [cellsN_length]; omega), show (k + 1) * 11 - 11 = k * 11 by omega, ih]
theorem cellsAllN_drop (us : List U) (k : Nat) : (cellsAllN us).drop (k * 11) = cellsAllN (us.drop k) := by
  induction us generalizing k with
  | nil => simp [cellsAllN]
  | cons u us ih =>
    cases k with
    | zero => simp [cellsAllN]
    | succ k =>
      show (cellsN u ++ cellsAllN us).drop ((k + 1) * 11) = cellsAllN (us.drop k)
      rw [List.drop_append, cellsN_length, List.drop_of_length_le (by rw [cellsN_length]; omega), show (k + 1) * 11 - 11 = k * 11 by omega, ih]
      rfl
/-- One unit of a row is written whole. -/
theorem own_setU {w : World} {B g cap : Nat} {us : List U} (h : w.ownsRow B 130 11 (.slice (some ⟨g, 0, none⟩) us.length cap) us.length (cellsAllN us)) (i : Nat) (hi : i < us.length) (u : U) :
    (w.setCells g (i * 11) (cellsN u)).ownsRow B 130 11 (.slice (some ⟨g, 0, none⟩) us.length cap) us.length (cellsAllN (us.set i u)) ∧ Kp (fun b => b = g) w (w.setCells g (i * 11) (cellsN u)) := by
  obtain ⟨h1, h2⟩ := own_setCells h (cellsN u) (i * 11) (by rw [cellsN_length]; omega)
  refine ⟨?_, (Kp.grown h2).imp (fun k _ hk => (Option.some.inj hk))⟩
  rw [cellsAllN_take, cellsN_length, show i * 11 + 11 = (i + 1) * 11 by omega, cellsAllN_drop] at h1
  have e : us.set i u = us.take i ++ u :: us.drop (i + 1) := by rw [List.set_eq_take_append_cons_drop, if_pos hi]
  rw [e, cellsAllN_append]
  have e2 : cellsAllN (u :: us.drop (i + 1)) = cellsN u ++ cellsAllN (us.drop (i + 1)) := rfl
  rw [e2, ← List.append_assoc]
  exact h1
/-- A row is cut short. -/
theorem own_cut {w : World} {B e s g n cap m : Nat} {xs : List Value} (h : w.ownsRow B e s (.slice (some ⟨g, 0, none⟩) n cap) n xs) (hm : m ≤ n) : w.ownsRow B e s (.slice (some ⟨g, 0, none⟩) m cap) m (xs.take (m * s)) := by
  have hms : m * s ≤ n * s := Nat.mul_le_mul_right s hm
  refine ⟨by rw [List.length_take, h.1]; omega, Or.inr ?_⟩
  rcases h.2 with ⟨h1, -⟩ | ⟨g', cap', cur, h1, hb, h3, h4, h5, h6, h7⟩
  · cases h1
  · cases h1
    exact ⟨g, cap, cur, rfl, hb, h3, by omega, h5, h6, by rw [← h7, List.take_take, Nat.min_eq_left hms]⟩
set_option maxHeartbeats 800000 in
set_option maxRecDepth 100000 in
theorem gone_any (u : U) (w : World) : Calls Try.prog 96 #[.agg #[.int .i64 u.id, .int .i64 u.owner, .int .i64 u.kind, .int .i64 u.x, .int .i64 u.y, .int .i64 u.hp, .int .i64 u.does, .int .i64 u.gx, .int .i64 u.gy, .int .i64 u.target, .int .i64 u.since]] w fun e w' => e = .returned (.bool (decide (u.hp < 1))) ∧ Below w.heap.size w w' := by
  go_enter Try.func96, Try.ntmps96
  go_wp2_with fail
  all_goals
    go_ret
    exact ⟨ret1 (boolv (by simp_all)), (Below.refl _ _).alloc (Nat.le_refl _) _⟩

set_option maxHeartbeats 800000 in
set_option maxRecDepth 100000 in
theorem idx_gone (a : Option Addr) (n c : Nat) (hn : n ≤ 100000) (us : List U) (hl : us.length = n) (w : World) (hr : URow true w.heap.size w a us) :
    Calls Try.prog 152 #[.slice a n c, .func (.func 96) #[] #[]] w fun e w' => Below w.heap.size w w' ∧
      ((e = .returned (.int .i64 (-1)) ∧ ∀ k, k < n → 0 < (us.getD k zeroU).hp) ∨ ∃ k : Nat, e = .returned (.int .i64 k) ∧ k < n ∧ ¬ 0 < (us.getD k zeroU).hp ∧ ∀ j, j < k → 0 < (us.getD j zeroU).hp) := by
  have HR := Lib.hid hr
  have HL := Lib.hid hl
  clear hr hl
  go_enter Try.func152, Try.ntmps152
  go_wp2_with fail
  go_loopw [8] (fun i wr => ∃ k : Nat, i = .int .i64 k ∧ k ≤ n ∧ ((∀ j, j < k → 0 < (us.getD j zeroU).hp) ∧ Below w.heap.size w wr)) (fun i _ => (n - intOf i).toNat)
  case atStart => exact ⟨0, rfl, by omega, fun j hj => absurd hj (by omega), Below.refl _ _⟩
  case round =>
    obtain ⟨k, rfl, hk, hX⟩ := hrel
    have HX := Lib.hid hX
    clear hX
    by_cases hlt : k < n
    · obtain ⟨v, hv⟩ : ∃ v, us.getD k zeroU = v := ⟨_, rfl⟩
      obtain ⟨b, o, rfl, hbB, q0, q1, q2, q3, q4, q5, q6, q7, q8, q9, q10⟩ := (HR.out.below HX.out.2).getN k (by have := HL.out; omega) v hv
      have HV := Lib.hid hv
      clear hv
      go_wp2_with fail
      refine (gone_any v _).mono ?_
      rintro e w' ⟨rfl, b2⟩
      have B2 : Hid (Below w.heap.size w w') := Lib.hid (HX.out.2.trans (b2.mono HX.out.2.size))
      clear b2 q0 q1 q2 q3 q4 q5 q6 q7 q8 q9 q10
      by_cases hg : v.hp < 1
      · rw [decide_eq_true hg]
        have HDD : Hid (¬ 0 < (us.getD k zeroU).hp) := Lib.hid (by rw [HV.out]; omega)
        clear hg
        go_wp2_with fail
        go_ret
        exact ⟨B2.out, Or.inr ⟨k, rfl, hlt, by have := HDD.out; simpa using this, HX.out.1⟩⟩
      · rw [decide_eq_false hg]
        have HGG := Lib.hid hg
        clear hg
        go_wp2_with fail
        go_roundw
        case rel =>
          refine ⟨k + 1, by go_num, by omega, fun j hj => ?_, B2.out⟩
          by_cases e : j = k
          · rw [e, HV.out]; have := HGG.out; omega
          · exact HX.out.1 j (by omega)
        case measure => simp [intOf]; omega
    · obtain rfl : k = n := by omega
      go_wp2_with fail
      go_ret
      exact ⟨HX.out.2, Or.inl ⟨rfl, HX.out.1⟩⟩

def DelEnd (B : Nat) (us : List U) (ua : Option Addr) (cu : Nat) (w : World) (e : Ending) (w' : World) : Prop :=
  e = .returned (.slice ua (leftF us).length cu) ∧ w'.ownsRow B 130 11 (.slice ua (leftF us).length cu) (leftF us).length (cellsAllN (leftF us)) ∧ Kp (fun b => (Value.slice ua us.length cu).ownBlock = some b) w w'
set_option maxHeartbeats 12800000 in
set_option maxRecDepth 100000 in
theorem delete_any (B : Nat) (us : List U) (ua : Option Addr) (cu : Nat) (h20 : us.length ≤ 1000) (w : World) (hown : w.ownsRow B 130 11 (.slice ua us.length cu) us.length (cellsAllN us)) :
    Calls Try.prog 95 #[.slice ua us.length cu, .func (.func 96) #[] #[]] w (DelEnd B us ua cu w) := by
  obtain ⟨va, vc, ve, -, hrow, -⟩ := URow.of_ownN hown
  cases ve
  have HO := Lib.hid hown
  have HRW := Lib.hid hrow
  clear hown hrow
  go_enter Try.func95, Try.ntmps95
  go_wp2_with fail
  refine (idx_gone ua us.length cu (by omega) us rfl w HRW.out).mono ?_
  rintro e w1 ⟨b1, ⟨rfl, hall⟩ | ⟨k0, rfl, hk0, hdead, hal⟩⟩
  · have HALL := Lib.hid hall
    have HB1 := Lib.hid b1
    clear b1 hall
    go_wp2_with fail
    go_ret
    have e : leftF us = us := by
      have := left_all_of (us := us) (j := us.length) HALL.out (Nat.le_refl _)
      rwa [List.take_length] at this
    unfold DelEnd
    rw [e]
    exact ⟨rfl, own_kp HO.out (kp_of HB1.out (fun _ => False)) (fun _ _ x => x), kp_of HB1.out _⟩
  · obtain ⟨gg, hua, hBg, hgl, hfz, hcap⟩ := own_ua HO.out (by omega)
    subst hua
    have hs0 := leftAt_start (us := us) (j := k0) hal (by omega)
    have hs1 := leftAt_gone (us := us) hk0 rfl hdead
    have HS0 := Lib.hid hs0
    have HS1 := Lib.hid hs1
    have HB1 := Lib.hid b1
    have HO1 := Lib.hid (own_kp HO.out (kp_of b1 (fun _ => False)) (fun _ _ x => x))
    have dk : ((k0 : Int) == -1) = false := by simp
    have dk2 : ((k0 : Int) = -1) = False := by simp
    clear hs0 hs1 hal hdead hgl hfz b1
    go_wp2_with fail
    go_loopw [5, 6] (fun a b wy => ∃ i j : Nat, a = .int .i64 i ∧ b = .int .i64 j ∧ j ≤ us.length ∧ i < j ∧ ((leftF (us.take j)).length = i ∧ wy.ownsRow B 130 11 (.slice (some ⟨gg, 0, none⟩) us.length cu) us.length (cellsAllN (leftAt us j)) ∧ Kp (fun b => b = gg) w wy)) (fun _ b _ => (us.length - intOf b).toNat)
    case atStart =>
      refine ⟨k0, k0 + 1, rfl, by go_num, by omega, by omega, by rw [HS1.out.2, HS0.out.2], ?_, kp_of HB1.out _⟩
      rw [HS1.out.1, HS0.out.1]
      exact HO1.out
    case round =>
      obtain ⟨i, j, rfl, rfl, hj, hij, hi, hw, hk⟩ := hrel
      have HI := Lib.hid hi
      have HW := Lib.hid hw
      have HK := Lib.hid hk
      have hlen := leftAt_length us j
      clear hi hw hk
      by_cases hlt : j < us.length
      · obtain ⟨u, hu⟩ : ∃ u, us.getD j zeroU = u := ⟨_, rfl⟩
        have hw2 := HW.out
        rw [← hlen] at hw2
        obtain ⟨va, vc, ve, -, hrow, -⟩ := URow.of_ownN hw2
        cases ve
        obtain ⟨b', o', ea, hbB, q0, q1, q2, q3, q4, q5, q6, q7, q8, q9, q10⟩ := hrow.getN j (by rw [hlen]; exact hlt) u (by rw [leftAt_get (Nat.le_refl _), hu])
        cases ea
        rw [Nat.zero_add] at q0 q1 q2 q3 q4 q5 q6 q7 q8 q9 q10
        have HU := Lib.hid hu
        have d1 : decide ((j : Int) < (us.length : Int)) = true := decide_eq_true (by omega)
        have hj0 : (0 : Int) ≤ (j : Int) := by omega
        have hj1 : (j : Int) < (us.length : Int) := by omega
        have HLEN := Lib.hid hlen
        clear hu hw2 hrow hlen
        go_upto_region 8 with fail
        refine gen_world (fun V => Below wr.heap.size wr V ∧ Blk V wr.heap.size #[.int .i64 u.id, .int .i64 u.owner, .int .i64 u.kind, .int .i64 u.x, .int .i64 u.y, .int .i64 u.hp, .int .i64 u.does, .int .i64 u.gx, .int .i64 u.gy, .int .i64 u.target, .int .i64 u.since]) ⟨(Below.refl _ _).alloc (Nat.le_refl _) _, Blk.new _ _ _⟩ ?_
        rintro V ⟨bV, kP⟩
        obtain ⟨pp, hpp⟩ : ∃ n, wr.heap.size = n := ⟨_, rfl⟩
        have HPP : Hid (wr.heap.size = pp ∧ gg < pp) := Lib.hid ⟨hpp, by omega⟩
        rw [hpp] at kP
        try rw [hpp]
        have BV := Lib.hid bV
        have KP := Lib.hid kP
        have lP := kP.lt
        have cP := kP.cell
        clear hpp bV kP q0 q1 q2 q3 q4 q5 q6 q7 q8 q9 q10 hbB
        go_wp2_with fail
        refine (gone_any u _).mono ?_
        rintro e w2 ⟨rfl, b2⟩
        have KP2 := Lib.hid (KP.out.call b2)
        have BV2 : Hid (Below wr.heap.size wr w2) := Lib.hid (BV.out.trans (b2.mono BV.out.size))
        have ho2 := own_kp HW.out (kp_of BV2.out (fun _ => False)) (fun _ _ x => x)
        have HO2 := Lib.hid ho2
        clear b2 lP cP ho2
        by_cases hg : u.hp < 1
        · rw [decide_eq_true hg]
          have HGG := Lib.hid hg
          clear hg
          go_wp2_with fail
          have hn := leftAt_gone (us := us) hlt HU.out (by have := HGG.out; omega)
          go_roundw
          case rel => exact ⟨i, j + 1, rfl, by go_num, by omega, by omega, by rw [hn.2]; exact HI.out, by rw [hn.1]; exact HO2.out, HK.out.then_ BV2.out⟩
          case measure => simp [intOf]; omega
        · rw [decide_eq_false hg]
          have HGG := Lib.hid hg
          have lP := KP2.out.lt
          have cP := KP2.out.cell
          have hi0 : (0 : Int) ≤ (i : Int) := by omega
          have hi1 : (i : Int) < (us.length : Int) := by omega
          have hth : w2.there gg (i * 11) (#[.int .i64 u.id, .int .i64 u.owner, .int .i64 u.kind, .int .i64 u.x, .int .i64 u.y, .int .i64 u.hp, .int .i64 u.does, .int .i64 u.gx, .int .i64 u.gy, .int .i64 u.target, .int .i64 u.since] : Array Value).size := by
            obtain ⟨gg2, e2, -, -, hf2, hc2⟩ := own_ua (us := leftAt us j) (by rw [HLEN.out]; exact HO2.out) (by rw [HLEN.out]; omega)
            cases e2
            intro q hq
            replace hq : q < 11 := hq
            refine ⟨?_, hf2 _⟩
            rw [World.ownsRow.cellAt HO2.out _ (by omega)]
            have : i * 11 + q < (cellsAllN (leftAt us j)).length := by rw [cellsAllN_length, HLEN.out]; omega
            rw [List.getElem?_eq_getElem this]
            rfl
          have HTH := Lib.hid hth
          clear hg hth
          obtain ⟨ou1, ku1⟩ := own_setU (us := leftAt us j) (by rw [HLEN.out]; exact HO2.out) i (by rw [HLEN.out]; omega) u
          rw [← HI.out, ← (leftAt_keep hlt HU.out (by have := HGG.out; omega)).1, HLEN.out, HI.out] at ou1
          have HOU := Lib.hid ou1
          have HKU := Lib.hid ku1
          have HL2 := Lib.hid (leftAt_keep hlt HU.out (by have := HGG.out; omega)).2
          clear ou1 ku1
          go_upto_region 9 with fail
          refine wp_region_lit ?_
          iterate 4 (refine wpList_plain rfl (fun K hK => ?_); go_simp; refine hK _ _ ?_; clear hK K)
          refine list_storeM gg (i * 11) #[.int .i64 u.id, .int .i64 u.owner, .int .i64 u.kind, .int .i64 u.x, .int .i64 u.y, .int .i64 u.hp, .int .i64 u.does, .int .i64 u.gx, .int .i64 u.gy, .int .i64 u.target, .int .i64 u.since] 130 (.tmp 33) (.tmp 32) rfl rfl rfl rfl rfl HTH.out (by kernel_rfl) (by simp [Value.oneCell']) (fun Z => Z.ownsRow B 130 11 (.slice (some ⟨gg, 0, none⟩) us.length cu) us.length (cellsAllN (leftAt us (j + 1))) ∧ Kp (fun b => b = gg) w2 Z) ⟨HOU.out, HKU.out⟩ ?_
          rintro Z ⟨oZ, kZ⟩
          have HOZ := Lib.hid oZ
          have HKZ := Lib.hid kZ
          clear oZ kZ lP cP
          refine wpList_nil ?_
          go_wp2_with fail
          go_roundw
          case rel => exact ⟨i + 1, j + 1, by go_num, by go_num, by omega, by omega, by rw [HL2.out, HI.out], HOZ.out, (HK.out.then_ BV2.out).trans HKZ.out (fun _ _ x => x)⟩
          case measure => simp [intOf]; omega
      · obtain rfl : j = us.length := by omega
        have hle := left_le us us.length
        have hi0 : (0 : Int) ≤ (i : Int) := by omega
        have hi1 : (i : Int) ≤ (us.length : Int) := by omega
        have hi2 : (us.length : Int) ≤ (cu : Int) := by omega
        have hi3 : (i : Int) ≤ (cu : Int) := by omega
        have hne1 : ¬ cu = i := by omega
        have hne2 : ¬ cu - i = 0 := by omega
        have d1 : decide ((us.length : Int) < (us.length : Int)) = false := decide_eq_false (by omega)
        have hw2 : wr.ownsRow B 130 11 (.slice (some ⟨gg, 0, none⟩) (leftAt us us.length).length cu) (leftAt us us.length).length (cellsAllN (leftAt us us.length)) := by rw [hlen]; exact HW.out
        obtain ⟨gg2, e2, -, hgl2, hf2, -⟩ := own_ua hw2 (by rw [hlen]; omega)
        cases e2
        have hcl : (Builtin.clear_ #[63] 0 #[.slice (some ⟨gg, i * 11, none⟩) (us.length - i) (cu - i)]).run Try.prog wr = .ok (.tuple #[]) (wr.setCells gg (i * 11) (List.replicate ((us.length - i) * 11) (.int .i64 0))) := by
          refine run_clear_rows wr _ 130 0 (.agg #[.int .i64 0, .int .i64 0, .int .i64 0, .int .i64 0, .int .i64 0, .int .i64 0, .int .i64 0, .int .i64 0, .int .i64 0, .int .i64 0, .int .i64 0]) (.int .i64 0) 11 Try.underlying63 (fun _ => by kernel_rfl) rfl (by omega) rfl gg (i * 11) (us.length - i) (cu - i) (by omega) (fun q hq => ?_) (fun q _ => hf2 _)
          rw [World.ownsRow.cellAt HW.out _ (by omega)]
          have : i * 11 + q < (cellsAllN (leftAt us us.length)).length := by rw [cellsAllN_length, hlen]; omega
          rw [List.getElem?_eq_getElem this]
          rfl
        obtain ⟨oc1, oc2⟩ := own_setCells HW.out (List.replicate ((us.length - i) * 11) (.int .i64 0)) (i * 11) (by rw [List.length_replicate]; omega)
        have oc3 := own_cut oc1 (m := i) (by omega)
        have e3 : ((cellsAllN (leftAt us us.length)).take (i * 11) ++ List.replicate ((us.length - i) * 11) (Value.int IntKind.i64 0) ++ (cellsAllN (leftAt us us.length)).drop (i * 11 + (List.replicate ((us.length - i) * 11) (Value.int IntKind.i64 0)).length)).take (i * 11) = cellsAllN (leftF us) := by
          have hli : (leftF us).length = i := by have := HI.out; rwa [List.take_length] at this
          have h1 : (cellsAllN (leftAt us us.length)).take (i * 11) = cellsAllN (leftF us) := by
            rw [cellsAllN_take, leftAt_end, ← hli, List.take_left]
          rw [h1, List.append_assoc]
          exact List.take_left' (by rw [cellsAllN_length, hli])
        rw [e3] at oc3
        have hli : (leftF us).length = i := by have := HI.out; rwa [List.take_length] at this
        have HLI := Lib.hid hli
        have HOC := Lib.hid oc3
        have HKC : Hid (Kp (fun b => b = gg) wr (wr.setCells gg (i * 11) (List.replicate ((us.length - i) * 11) (.int .i64 0)))) := Lib.hid ((Kp.grown oc2).imp (fun k _ hk => (Option.some.inj hk)))
        obtain ⟨Z, hZ⟩ : ∃ z, wr.setCells gg (i * 11) (List.replicate ((us.length - i) * 11) (.int .i64 0)) = z := ⟨_, rfl⟩
        rw [hZ] at HOC HKC hcl
        clear oc1 oc2 oc3 e3 hw2 hli hZ hlen hf2
        go_wp2_with fail
        go_ret
        unfold DelEnd
        rw [HLI.out]
        exact ⟨rfl, HOC.out, (HK.out.trans HKC.out (fun _ _ x => x)).imp (fun b _ e => congrArg some e.symm)⟩
end Go.Proofs.Ytlfljlhppigejaa
