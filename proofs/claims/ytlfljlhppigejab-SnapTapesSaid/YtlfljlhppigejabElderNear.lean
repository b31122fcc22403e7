/-
  The walks of elder.taken, elder.near, elder.wish.
-/
import Derived.Test.YtlfljlhppigejabElderAt
import Derived.Test.YtlfljlhppigejabLoose
import Derived.Test.YtlfljlhppigejabPackPure
import Derived.Test.YtlfljlhppigejabToward
import Derived.Deep.DeepCutAuto
namespace Go.Proofs.Ytlfljlhppigejab
open Go.RowKit
attribute [local go_sem] qOne qAt qUp

set_option maxHeartbeats 800000 in
set_option maxRecDepth 100000 in
theorem taken_any (S : Nat) (a : Option Addr) (n c : Nat) (us : List U) (x y : Int) (hl : us.length = n) (hn : n ≤ 100000) (w : World) (hS : S < w.heap.size) (h5 : w.cell? ⟨S, 5, none⟩ = some (.slice a n c)) (hu : URow false w.heap.size w a us) :
    Calls Try.prog 110 #[.pointer (some ⟨S, 0, none⟩), .int .i64 x, .int .i64 y] w fun e w' => e = .returned (.bool (standsAt us x y)) ∧ Below w.heap.size w w' := by
  have HU := Lib.hid hu
  have HL := Lib.hid hl
  clear hu hl
  go_enter Try.func110, Try.ntmps110
  go_wp2_with fail
  clear h5
  go_loopw [15] (fun i wr => ∃ k : Nat, i = .int .i64 k ∧ k ≤ n ∧ ((∀ j, j < k → ((us.getD j zeroU).x == x && (us.getD j zeroU).y == y) = false) ∧ Below w.heap.size w wr)) (fun i _ => (n - intOf i).toNat)
  case atStart => exact ⟨0, rfl, by omega, fun j hj => absurd hj (by omega), Below.refl _ _⟩
  case round =>
    obtain ⟨k, rfl, hk, hX⟩ := hrel
    have HX := Lib.hid hX
    clear hX
    by_cases hlt : k < n
    · obtain ⟨v, hv⟩ : ∃ v, us.getD k zeroU = v := ⟨_, rfl⟩
      obtain ⟨b, o, rfl, -, q0, q1, q2, q3, q4, q5, q6, q7, q8, q9⟩ := (HU.out.below HX.out.2).getE k (by have := HL.out; omega) v hv
      have HV := Lib.hid hv
      have HW : Hid (∀ cs t, Below w.heap.size w (wr.alloc (.cells cs t))) := Lib.hid (fun cs t => HX.out.2.alloc HX.out.2.size _)
      clear hv
      by_cases he : v.x = x
      · have d1 : (v.x == x) = true := by simp [he]
        by_cases he2 : v.y = y
        · have d2 : (v.y == y) = true := by simp [he2]
          have HE := Lib.hid he
          have HE2 := Lib.hid he2
          clear he he2
          go_wp2_with fail
          go_ret
          refine ⟨ret1 (boolv ?_), HW.out _ _⟩
          have hkl : k < us.length := by have := HL.out; omega
          have : standsAt us x y = true := by
            unfold standsAt
            rw [List.any_eq_true]
            exact ⟨us[k], List.getElem_mem hkl, by rw [← getD_lt hkl, HV.out]; simp [HE.out, HE2.out]⟩
          exact this.symm
        · have d2 : (v.y == y) = false := by simp [he2]
          have HE : Hid ((v.x == x && v.y == y) = false) := Lib.hid (by simp [he2])
          clear he he2
          go_wp2_with fail
          go_roundw
          case rel =>
            refine ⟨k + 1, by go_num, by omega, ?_, HW.out _ _⟩
            intro j hj
            by_cases e : j = k
            · rw [e, HV.out]; exact HE.out
            · exact HX.out.1 j (by omega)
          case measure => simp [intOf]; omega
      · have d1 : (v.x == x) = false := by simp [he]
        have HE : Hid ((v.x == x && v.y == y) = false) := Lib.hid (by simp [he])
        clear he
        go_wp2_with fail
        go_roundw
        case rel =>
          refine ⟨k + 1, by go_num, by omega, ?_, HW.out _ _⟩
          intro j hj
          by_cases e : j = k
          · rw [e, HV.out]; exact HE.out
          · exact HX.out.1 j (by omega)
        case measure => simp [intOf]; omega
    · go_wp2_with fail
      go_ret
      refine ⟨ret1 (boolv ?_), HX.out.2⟩
      have : standsAt us x y = false := by
        unfold standsAt
        rw [List.any_eq_false]
        intro v hv
        obtain ⟨j, hj, rfl⟩ := List.mem_iff_getElem.1 hv
        have := HX.out.1 j (by have := HL.out; omega)
        rw [getD_lt hj] at this
        rw [this]
        simp
      exact this.symm

/-- Where it wants to go. -/
def goalE (us : List U) (u : U) : Int × Int := if 0 < u.target then ((us.getD (ixOf us u.target).toNat zeroU).x, (us.getD (ixOf us u.target).toNat zeroU).y) else (u.gx, u.gy)
def small (n : Int) : Prop := -100000 ≤ n ∧ n ≤ 100000
def nearE (us : List U) (u : U) : Bool :=
  if u.does = 3 then decide (far u.x u.y (us.getD (ixOf us u.target).toNat zeroU).x (us.getD (ixOf us u.target).toNat zeroU).y ≤ 1)
  else decide (far u.x u.y (us.getD (ixOf us u.target).toNat zeroU).x (us.getD (ixOf us u.target).toNat zeroU).y ≤ (ruleOf false u.kind).range)

set_option maxHeartbeats 3200000 in
set_option maxRecDepth 100000 in
theorem near_any (S : Nat) (a : Option Addr) (n c : Nat) (us : List U) (u : U) (hl : us.length = n) (hn : n ≤ 1000) (hs : sortedU us) (k : Nat) (hk : ixOf us u.target = k) (v : U) (hv : us.getD k zeroU = v) (s1 : small u.x) (s2 : small u.y) (s3 : small v.x) (s4 : small v.y)
    (w : World) (hS : S < w.heap.size) (h5 : w.cell? ⟨S, 5, none⟩ = some (.slice a n c)) (hu : URow false w.heap.size w a us) :
    Calls Try.prog 111 #[.pointer (some ⟨S, 0, none⟩), .agg #[.int .i64 u.id, .int .i64 u.owner, .int .i64 u.kind, .int .i64 u.x, .int .i64 u.y, .int .i64 u.hp, .int .i64 u.does, .int .i64 u.gx, .int .i64 u.gy, .int .i64 u.target]] w fun e w' => e = .returned (.bool (nearE us u)) ∧ Below w.heap.size w w' := by
  have hkn : k < n := by rw [← hl]; exact (ixOf_lt hk).1
  obtain ⟨W0, hW0⟩ : ∃ W0, w.alloc (.cells #[.int .i64 u.id, .int .i64 u.owner, .int .i64 u.kind, .int .i64 u.x, .int .i64 u.y, .int .i64 u.hp, .int .i64 u.does, .int .i64 u.gx, .int .i64 u.gy, .int .i64 u.target] 83) = W0 := ⟨_, rfl⟩
  have hb0 : Below w.heap.size w W0 := by rw [← hW0]; exact (Below.refl _ _).alloc (Nat.le_refl _) _
  have hk1 := Blk.new w #[.int .i64 u.id, .int .i64 u.owner, .int .i64 u.kind, .int .i64 u.x, .int .i64 u.y, .int .i64 u.hp, .int .i64 u.does, .int .i64 u.gx, .int .i64 u.gy, .int .i64 u.target] 83
  rw [hW0] at hk1
  have hsz : w.heap.size < W0.heap.size := hk1.lt
  have hg5 : W0.cell? ⟨S, 5, none⟩ = some (.slice a n c) := (hb0.cell (p := ⟨S, 5, none⟩) hS).trans h5
  obtain ⟨b, o, rfl, hbB, q0, q1, q2, q3, q4, q5, q6, q7, q8, q9⟩ := (hu.below hb0).getE k (by omega) v hv
  have hbB0 : b < W0.heap.size := by omega
  obtain ⟨l1, c1, -⟩ := id hk1
  have HK1 := Lib.hid hk1
  have HU0 : Hid (URow false W0.heap.size W0 (some ⟨b, o, none⟩) us) := Lib.hid ((hu.below hb0).mono (by omega))
  have HB0 := Lib.hid hb0
  have HL := Lib.hid hl
  have HSo := Lib.hid hs
  have HNE : Hid (nearE us u = if u.does = 3 then decide (far u.x u.y v.x v.y ≤ 1) else decide (far u.x u.y v.x v.y ≤ (ruleOf false u.kind).range)) := Lib.hid (by
    show _ = _
    unfold nearE
    rw [hk, Int.toNat_natCast, hv])
  have HK := Lib.hid hk
  have hki : (0 : Int) ≤ (k : Int) := by omega
  have hkj : (k : Int) < (n : Int) := by omega
  clear hu hb0 hk1 h5 hl hs hv hk
  go_enter Try.func111, Try.ntmps111
  go_wp2_with fail
  haveI := Cw.ne W0
  have hS0 : S < W0.heap.size := by omega
  have hcw := fun (x : Cw W0) => x.cell
  refine region_loose 15 (by kernel_rfl) (by kernel_rfl) ?_
  repeat (refine wpQB_step (fun K hK => ?_); go_simp; first | (refine hK _ ?_; clear hK K) | (apply Exists.intro; refine ⟨fun x => ?_, hK _ ?_⟩; (go_at_call 103; refine (at_any (some ⟨b, o, none⟩) n c us u.target HL.out hn HSo.out _ ((HU0.out.below x.below).mono x.le)).mono ?_; rintro e w1 ⟨rfl, b1⟩; rw [HK.out]; exact ⟨rfl, b1⟩); clear hK K))
  refine wpQB_nil ?_
  refine tail_var (T := 83) (d := 5) (r := 23) (c := #[.int .i64 v.id, .int .i64 v.owner, .int .i64 v.kind, .int .i64 v.x, .int .i64 v.y, .int .i64 v.hp, .int .i64 v.does, .int .i64 v.gx, .int .i64 v.gy, .int .i64 v.target]) #[.int .i64 0, .int .i64 0, .int .i64 0, .int .i64 0, .int .i64 0, .int .i64 0, .int .i64 0, .int .i64 0, .int .i64 0, .int .i64 0] rfl rfl rfl rfl (fun _ => rfl) (fun w => by simp [go_sem]) (fun _ => rfl) (by simp) rfl (by kernel_rfl) (by simp [Value.oneCell']) (fun p => ?_)
  refine tail_nil ?_
  rintro w1 ⟨hb, hp, hk⟩
  clear hcw q0 q1 q2 q3 q4 q5 q6 q7 q8 q9
  obtain ⟨l3, c3, -⟩ := id hk
  have hc1 := (bcell hb).1
  have HK3 := Lib.hid hk
  have HB : Hid (Below w.heap.size w w1) := Lib.hid (HB0.out.trans (hb.mono (by omega)))
  have hs1 := hb.size
  have HBB := Lib.hid hb
  clear hb hk hp
  go_simp
  go_wp2_with fail
  refine (rElder u.kind _).mono ?_
  rintro e w2 ⟨rfl, b2⟩
  have HB2 : Hid (Below w.heap.size w w2) := Lib.hid (HB.out.trans (b2.mono (by omega)))
  obtain ⟨l4, c4, -⟩ := (HK1.out.below HBB.out hsz).call b2
  obtain ⟨l5, c5, -⟩ := HK3.out.call b2
  clear c1 c3 hc1
  have hs2 := b2.size
  obtain ⟨r, hrr⟩ : ∃ r, ruleOf false u.kind = r := ⟨_, rfl⟩
  rw [hrr]
  rw [hrr] at HNE
  clear hrr b2
  have e1 : w.heap.size < w1.heap.size := by omega
  have e2 : w.heap.size ≠ w2.heap.size := by omega
  have e3 : p ≠ w2.heap.size := by omega
  obtain ⟨_, _⟩ := s1; obtain ⟨_, _⟩ := s2; obtain ⟨_, _⟩ := s3; obtain ⟨_, _⟩ := s4
  go_wp2_with fail
  refine (rFar u.x u.y v.x v.y _ (by omega) (by omega) (by omega) (by omega)).mono ?_
  rintro e w3 ⟨rfl, rfl⟩
  by_cases h3 : u.does = 3
  · have d3 : (u.does == 3) = true := by simp [h3]
    have HF : Hid (nearE us u = decide (far u.x u.y v.x v.y ≤ 1)) := Lib.hid (by rw [HNE.out, if_pos h3])
    clear h3
    go_wp2_with fail
    go_ret
    exact ⟨ret1 (boolv HF.out.symm), by repeat (first | exact HB2.out | refine Below.alloc ?_ HB2.out.size _)⟩
  · have d3 : (u.does == 3) = false := by simp [h3]
    have HF : Hid (nearE us u = decide (far u.x u.y v.x v.y ≤ r.range)) := Lib.hid (by rw [HNE.out, if_neg h3])
    clear h3
    go_wp2_with fail
    go_ret
    exact ⟨ret1 (boolv HF.out.symm), by repeat (first | exact HB2.out | refine Below.alloc ?_ HB2.out.size _)⟩

def wishE (us : List U) (u : U) : Option (Int × Int) :=
  if (ruleOf false u.kind).speed = 0 ∨ u.does = 0 ∨ (0 < u.target ∧ nearE us u = true) then none
  else if goalE us u = (u.x, u.y) then none
  else some (near1 u.x (goalE us u).1, near1 u.y (goalE us u).2)
/-- What a wish hands back. -/
def WishEnd (us : List U) (u : U) (w : World) (e : Ending) (w' : World) : Prop :=
  Below w.heap.size w w' ∧ ((wishE us u = none ∧ ∃ p q, e = .returned (.tuple #[.agg #[.int .i64 p, .int .i64 q], .bool false])) ∨ ∃ p q, wishE us u = some (p, q) ∧ e = .returned (.tuple #[.agg #[.int .i64 p, .int .i64 q], .bool true]))

theorem Blk.store2 {w : World} {S : Nat} {a b : Value} (h : Blk w S #[a, b]) (x y : Value) : Blk ((w.setCell ⟨S, 0, none⟩ x).setCell ⟨S, 1, none⟩ y) S #[x, y] := by
  have := (h.store x (i := 0) (by simp)).store y (i := 1) (by simp)
  simpa using this

set_option maxHeartbeats 3200000 in
set_option maxRecDepth 100000 in
theorem wish_go (S : Nat) (u : U) (ht : u.target = 0) (us : List U) (s1 : small u.x) (s2 : small u.y) (s3 : small u.gx) (s4 : small u.gy) (w : World) :
    Calls Try.prog 109 #[.pointer (some ⟨S, 0, none⟩), .agg #[.int .i64 u.id, .int .i64 u.owner, .int .i64 u.kind, .int .i64 u.x, .int .i64 u.y, .int .i64 u.hp, .int .i64 u.does, .int .i64 u.gx, .int .i64 u.gy, .int .i64 u.target]] w (WishEnd us u w) := by
  have hb0 : Below w.heap.size w (w.alloc (.cells #[.int .i64 u.id, .int .i64 u.owner, .int .i64 u.kind, .int .i64 u.x, .int .i64 u.y, .int .i64 u.hp, .int .i64 u.does, .int .i64 u.gx, .int .i64 u.gy, .int .i64 u.target] 83)) := (Below.refl _ _).alloc (Nat.le_refl _) _
  have hb1 : Below w.heap.size w ((w.alloc (.cells #[.int .i64 u.id, .int .i64 u.owner, .int .i64 u.kind, .int .i64 u.x, .int .i64 u.y, .int .i64 u.hp, .int .i64 u.does, .int .i64 u.gx, .int .i64 u.gy, .int .i64 u.target] 83)).alloc (.cells #[.int .i64 0, .int .i64 0] 22)) := hb0.alloc (by simp) _
  have hk1 := (Blk.new w #[.int .i64 u.id, .int .i64 u.owner, .int .i64 u.kind, .int .i64 u.x, .int .i64 u.y, .int .i64 u.hp, .int .i64 u.does, .int .i64 u.gx, .int .i64 u.gy, .int .i64 u.target] 83).alloc (.cells #[.int .i64 0, .int .i64 0] 22)
  have hk2 := Blk.new (w.alloc (.cells #[.int .i64 u.id, .int .i64 u.owner, .int .i64 u.kind, .int .i64 u.x, .int .i64 u.y, .int .i64 u.hp, .int .i64 u.does, .int .i64 u.gx, .int .i64 u.gy, .int .i64 u.target] 83)) #[.int .i64 0, .int .i64 0] 22
  have hk2 : Blk ((w.alloc (.cells #[.int .i64 u.id, .int .i64 u.owner, .int .i64 u.kind, .int .i64 u.x, .int .i64 u.y, .int .i64 u.hp, .int .i64 u.does, .int .i64 u.gx, .int .i64 u.gy, .int .i64 u.target] 83)).alloc (.cells #[.int .i64 0, .int .i64 0] 22)) (w.heap.size + 1) #[.int .i64 0, .int .i64 0] := by simpa using hk2
  have HG : Hid (goalE us u = (u.gx, u.gy)) := Lib.hid (by show _ = _; unfold goalE; rw [if_neg (by omega)])
  have HT := Lib.hid ht
  have HB1 := Lib.hid hb1
  have HK1 := Lib.hid hk1
  have HK2 := Lib.hid hk2
  have t0 : ¬ 0 < u.target := by omega
  clear hb0 hb1 hk1 hk2 ht
  go_enter Try.func109, Try.ntmps109
  go_wp2_with fail
  refine (rElder u.kind _).mono ?_
  rintro e w1 ⟨rfl, b1⟩
  have HBW : Hid (Below w.heap.size w w1) := Lib.hid (HB1.out.trans (b1.mono (by simp; omega)))
  have hK1 := HK1.out.call b1
  have hK2 := HK2.out.call b1
  obtain ⟨l1, c1, -⟩ := id hK1
  obtain ⟨l2, c2, f2⟩ := id hK2
  have HKA := Lib.hid hK1
  have HKB := Lib.hid hK2
  obtain ⟨r, hrr⟩ : ∃ r, ruleOf false u.kind = r := ⟨_, rfl⟩
  have HR := Lib.hid hrr
  rw [hrr]
  clear hrr b1 hK1 hK2
  have ne1 : w.heap.size + 1 ≠ w1.heap.size := by omega
  have ne0 : w.heap.size ≠ w1.heap.size := by omega
  by_cases h0 : r.speed = 0 ∨ u.does = 0
  · have HN : Hid (wishE us u = none) := Lib.hid (by
      show _ = _
      unfold wishE
      rw [HR.out, if_pos]
      rcases h0 with h | h
      · exact Or.inl h
      · exact Or.inr (Or.inl h))
    go_wp2_with fail
    go_quiet (fail)
    go_wp2_with fail
    all_goals first
      | (exfalso; omega)
      | (refine bodyPost_ret (v := .tuple #[.agg #[.int .i64 0, .int .i64 0], .bool false]) (ret_pair (d := .array 2 3) Try.results109 rfl rfl (Blk.store2 ((HKB.out.alloc _).drewN _) _ _) (by kernel_rfl) rfl (by kernel_rfl)) rfl ⟨?_, Or.inl ⟨HN.out, 0, 0, rfl⟩⟩
         repeat (first | exact HBW.out | refine Below.setCell ?_ (by simp) _ | refine Below.alloc ?_ HBW.out.size _ | refine Below.drew ?_ | refine below_drewN ?_ _))
  · have h1 : ¬ r.speed = 0 := fun h => h0 (Or.inl h)
    have h2 : ¬ u.does = 0 := fun h => h0 (Or.inr h)
    have d1 : (r.speed == 0) = false := by simp [h1]
    have d2 : (u.does == 0) = false := by simp [h2]
    have HW : Hid (wishE us u = if (u.gx, u.gy) = (u.x, u.y) then none else some (near1 u.x u.gx, near1 u.y u.gy)) := Lib.hid (by
      show _ = _
      unfold wishE
      rw [HR.out, HG.out, if_neg]
      rintro (h | h | h)
      · exact h1 h
      · exact h2 h
      · have := HT.out; omega)
    clear h0
    go_wp2_with fail
    go_quiet (fail)
    go_wp2_with fail
    refine (rToward u.x u.y u.gx u.gy _ s1 s2 s3 s4).mono ?_
    rintro e w3 ⟨rfl, rfl⟩
    obtain ⟨p, hp⟩ : ∃ p, near1 u.x u.gx = p := ⟨_, rfl⟩
    obtain ⟨q, hq⟩ : ∃ q, near1 u.y u.gy = q := ⟨_, rfl⟩
    have hpx : p = u.x ↔ u.gx = u.x := by rw [← hp]; unfold near1; split <;> (try split) <;> omega
    have hqy : q = u.y ↔ u.gy = u.y := by rw [← hq]; unfold near1; split <;> (try split) <;> omega
    rw [hp, hq]
    have HP := Lib.hid hp
    have HQ := Lib.hid hq
    have HPX := Lib.hid hpx
    have HQY := Lib.hid hqy
    clear hp hq hpx hqy
    have HFIN : Hid (∀ b : Bool, (p != u.x || q != u.y) = b → (b = false ∧ wishE us u = none) ∨ (b = true ∧ wishE us u = some (p, q))) := Lib.hid (by
      intro b hb
      rw [HW.out, HP.out, HQ.out]
      cases b
      · left
        simp at hb
        rw [if_pos (by rw [HPX.out.1 hb.1, HQY.out.1 hb.2])]
        exact ⟨rfl, rfl⟩
      · right
        rw [if_neg]
        · exact ⟨rfl, rfl⟩
        · intro h
          simp only [Prod.mk.injEq] at h
          rw [HPX.out.2 h.1, HQY.out.2 h.2] at hb
          simp at hb)
    by_cases hx : p = u.x
    · have e3 : (p != u.x) = false := by simp [hx]
      have e3' : (p == u.x) = true := by simp [hx]
      by_cases hy : q = u.y
      · have e4 : (q != u.y) = false := by simp [hy]
        have e4' : (q == u.y) = true := by simp [hy]
        have HD := Lib.hid ((HFIN.out false (by simp [hx, hy])).resolve_right (by simp))
        clear hx hy
        go_wp2_with fail
        go_region
        go_wp2_with fail
        refine bodyPost_ret (v := .tuple #[.agg #[.int .i64 p, .int .i64 q], .bool false]) (ret_pair (d := .array 2 3) Try.results109 rfl rfl (Blk.store2 ((HKB.out.alloc _).drewN _) _ _) (by kernel_rfl) rfl (by kernel_rfl)) rfl ⟨?_, Or.inl ⟨HD.out.2, p, q, rfl⟩⟩
        repeat (first | exact HBW.out | refine Below.setCell ?_ (by simp) _ | refine Below.alloc ?_ HBW.out.size _ | refine Below.drew ?_ | refine below_drewN ?_ _)
      · have e4 : (q != u.y) = true := by simp [hy]
        have e4' : (q == u.y) = false := by simp [hy]
        have HD := Lib.hid ((HFIN.out true (by simp [hy])).resolve_left (by simp))
        clear hx hy
        go_wp2_with fail
        go_region
        go_wp2_with fail
        refine bodyPost_ret (v := .tuple #[.agg #[.int .i64 p, .int .i64 q], .bool true]) (ret_pair (d := .array 2 3) Try.results109 rfl rfl (Blk.store2 ((HKB.out.alloc _).drewN _) _ _) (by kernel_rfl) rfl (by kernel_rfl)) rfl ⟨?_, Or.inr ⟨p, q, HD.out.2, rfl⟩⟩
        repeat (first | exact HBW.out | refine Below.setCell ?_ (by simp) _ | refine Below.alloc ?_ HBW.out.size _ | refine Below.drew ?_ | refine below_drewN ?_ _)
    · have e3 : (p != u.x) = true := by simp [hx]
      have e3' : (p == u.x) = false := by simp [hx]
      have HD := Lib.hid ((HFIN.out true (by simp [hx])).resolve_left (by simp))
      clear hx
      go_wp2_with fail
      go_region
      go_wp2_with fail
      refine bodyPost_ret (v := .tuple #[.agg #[.int .i64 p, .int .i64 q], .bool true]) (ret_pair (d := .array 2 3) Try.results109 rfl rfl (Blk.store2 ((HKB.out.alloc _).drewN _) _ _) (by kernel_rfl) rfl (by kernel_rfl)) rfl ⟨?_, Or.inr ⟨p, q, HD.out.2, rfl⟩⟩
      repeat (first | exact HBW.out | refine Below.setCell ?_ (by simp) _ | refine Below.alloc ?_ HBW.out.size _ | refine Below.drew ?_ | refine below_drewN ?_ _)
end Go.Proofs.Ytlfljlhppigejab
