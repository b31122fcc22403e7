/-
  The walk of the document's Newer: a game as a state of the newer game. (Printed by gen_refnewer.py.) The walks of the document's Goes and Aims. (Printed by gen_refgoes.py.)
-/
import Derived.Test.YtlfljlhppigejaaPackRef
import Derived.Test.YtlfljlhppigejaaElderOwn
import Derived.Test.YtlfljlhppigejaaNewStep
import Derived.Test.YtlfljlhppigejaaPackTell
namespace Go.Proofs.Ytlfljlhppigejaa
open Go.RowKit
attribute [local go_sem] qOne qAt qUp

theorem blk_setCellsN {w : World} {p : Nat} {z c : Array Value} (hk : Blk w p z) (hsz : z.size = c.size) : Blk (w.setCells p 0 c.toList) p c := by
  have ht : w.there p 0 c.size := fun j hj => ⟨by rw [Nat.zero_add, hk.cell j, Array.getElem?_eq_getElem (by omega)]; rfl, by rw [Nat.zero_add]; exact hk.free j⟩
  have hfro : ∀ (l : List Value) (o : Nat) (v : World) (b : Addr), (v.setCells p o l).frozen? b = v.frozen? b := by
    intro l
    induction l with
    | nil => intro o v b; rfl
    | cons x l ih => intro o v b; exact (ih (o + 1) _ b).trans free_set
  refine ⟨Nat.lt_of_lt_of_le hk.lt (kp_setCells p _ 0 w).size, fun i => ?_, fun i => (hfro _ _ _ _).trans (hk.free i)⟩
  by_cases hic : i < c.size
  · have := World.rangeAt_setCells_same w p 0 c.toList (by simpa using ht) i c[i] (by simp [hic])
    rw [Nat.zero_add] at this
    rw [this, Array.getElem?_eq_getElem hic]
  · rw [World.cell?_setCells_out p c.toList 0 w ⟨p, i, none⟩ (fun _ _ => Or.inr (by simp; omega)), hk.cell i, Array.getElem?_eq_none (by omega), Array.getElem?_eq_none (by omega)]
set_option maxHeartbeats 6400000 in
set_option maxRecDepth 100000 in
theorem refnewer_any (B S : Nat) (g : G) (born : List Int) (fv bv : Value) (ua : Option Addr) (cu : Nat) (w : World) (h : GR w B S g born fv (.slice ua g.us.length cu) bv) :
    Calls Try.prog 107 #[.pointer (some ⟨S, 0, none⟩)] w fun e w' => e = .returned (.agg #[.int .i64 g.tick, .int .i64 g.g0, .int .i64 g.g1, .int .i64 g.next, .slice ua g.us.length cu]) ∧ Below w.heap.size w w' := by
  obtain ⟨lS, cS, -⟩ := id h.blk
  obtain ⟨V, hV⟩ : ∃ V, w.alloc (.cells #[.int .i64 0, .int .i64 0, .int .i64 0, .int .i64 0, .slice none 0 0] 65) = V := ⟨_, rfl⟩
  have hbV : Below w.heap.size w V := by rw [← hV]; exact (Below.refl _ _).alloc (Nat.le_refl _) _
  have kV : Blk V w.heap.size #[.int .i64 0, .int .i64 0, .int .i64 0, .int .i64 0, .slice none 0 0] := by rw [← hV]; exact Blk.new w _ _
  have cc : ∀ i, V.cell? ⟨S, i, none⟩ = (gameC g fv (.slice ua g.us.length cu) bv)[i]? := fun i => (hbV.cell (p := ⟨S, i, none⟩) lS).trans (cS i)
  have c1 : V.cell? ⟨S, 1, none⟩ = some (.int .i64 g.tick) := cc 1
  have c2 : V.cell? ⟨S, 2, none⟩ = some (.int .i64 g.g0) := cc 2
  have c3 : V.cell? ⟨S, 3, none⟩ = some (.int .i64 g.g1) := cc 3
  have c4 : V.cell? ⟨S, 4, none⟩ = some (.int .i64 g.next) := cc 4
  have c6 : V.cell? ⟨S, 6, none⟩ = some (.slice ua g.us.length cu) := cc 6
  have lSV : S < V.heap.size := Nat.lt_of_lt_of_le lS hbV.size
  have HBV := Lib.hid hbV
  have HKV := Lib.hid kV
  clear h hbV kV cS cc
  go_enter Try.func107, Try.ntmps107
  go_upto_region 1 with fail
  try rw [hV]
  clear hV
  haveI := Cw.ne V
  have hcw := fun (x : Cw V) => x.cell
  refine region_cw_tail 17 (by kernel_rfl) (by kernel_rfl) ?_
  simp only [List.take_succ_cons, List.take_zero, List.drop_succ_cons, List.drop_zero]
  repeat (go_big_quiet_step (fail))
  refine wpQuiet_nil ?_
  intro Y hY
  have kY := HKV.out.call hY
  have hsV := HBV.out.size
  have HY := Lib.hid (HBV.out.trans (hY.mono hsV))
  have hth : Y.there w.heap.size 0 (#[.int .i64 g.tick, .int .i64 g.g0, .int .i64 g.g1, .int .i64 g.next, .slice ua g.us.length cu] : Array Value).size := fun j hj => ⟨by
    replace hj : j < 5 := hj
    rw [Nat.zero_add, kY.cell j, Array.getElem?_eq_getElem (by show j < 5; exact hj)]; rfl, by rw [Nat.zero_add]; exact kY.free j⟩
  have hst := blk_setCellsN kY (c := #[.int .i64 g.tick, .int .i64 g.g0, .int .i64 g.g1, .int .i64 g.next, .slice ua g.us.length cu]) rfl
  have HST := Lib.hid hst
  have HTH := Lib.hid hth
  have HBZ : Hid (Below w.heap.size w (Y.setCells w.heap.size 0 (#[.int .i64 g.tick, .int .i64 g.g0, .int .i64 g.g1, .int .i64 g.next, .slice ua g.us.length cu] : Array Value).toList)) := Lib.hid (HY.out.trans ((kp_setCells w.heap.size (#[.int .i64 g.tick, .int .i64 g.g0, .int .i64 g.g1, .int .i64 g.next, .slice ua g.us.length cu] : Array Value).toList 0 Y).below (fun b hb => by have h2 : b = w.heap.size := hb; omega) HY.out.size))
  clear hY kY hcw c1 c2 c3 c4 c6 hst hth
  refine list_storeM w.heap.size 0 #[.int .i64 g.tick, .int .i64 g.g0, .int .i64 g.g1, .int .i64 g.next, .slice ua g.us.length cu] 65 (.tmp 2) (.tmp 19) rfl rfl rfl rfl rfl HTH.out (by kernel_rfl) (by simp [Value.oneCell']) (fun Z => Blk Z w.heap.size #[.int .i64 g.tick, .int .i64 g.g0, .int .i64 g.g1, .int .i64 g.next, .slice ua g.us.length cu] ∧ Below w.heap.size w Z) ⟨HST.out, HBZ.out⟩ ?_
  rintro Z ⟨kZ, bZ⟩
  have KZ := Lib.hid kZ
  have BZ := Lib.hid bZ
  clear kZ bZ
  go_wp2_with fail
  refine bodyPost_ret (v := .agg #[.int .i64 g.tick, .int .i64 g.g0, .int .i64 g.g1, .int .i64 g.next, .slice ua g.us.length cu]) (ret_cell Try.results107 rfl KZ.out Try.underlying65 rfl infoNewerN) rfl ?_
  exact ⟨rfl, BZ.out⟩
end Go.Proofs.Ytlfljlhppigejaa
namespace Go.Proofs.Ytlfljlhppigejaa
open Go.RowKit
attribute [local go_sem] qOne qAt qUp

set_option maxHeartbeats 3200000 in
set_option maxRecDepth 100000 in
theorem refgoes_any (B S : Nat) (g : G) (born : List Int) (fv uv bv : Value) (i : Nat) (u : U) (x y : Int) (w : World) (h : GR w B S g born fv uv bv) (hi : g.us[i]? = some u) :
    Calls Try.prog 101 #[.pointer (some ⟨S, 0, none⟩), .int .i64 i, .int .i64 x, .int .i64 y] w (TurnEnd w B S { g with us := goesF g.new g.us i x y } born fv uv bv) := by
  obtain ⟨hlt, he⟩ := List.getElem?_eq_some_iff.1 hi
  have hu : g.us.getD i zeroU = u := by rw [getD_lt hlt, he]
  obtain ⟨b, cu, rfl, hbB, hml⟩ := own_unit h.us hlt
  obtain ⟨a', c', ea, -, hrow, -⟩ := URow.of_ownN h.us
  cases ea
  obtain ⟨b', o', ea, -, q0, q1, q2, q3, q4, q5, q6, q7, q8, q9, q10⟩ := hrow.getN i hlt u hu
  cases ea
  simp only [Nat.zero_add] at q0 q1 q2 q3 q4 q5 q6 q7 q8 q9 q10
  obtain ⟨m, hm⟩ : ∃ m, g.us.length = m := ⟨_, rfl⟩
  rw [hm] at h hlt hml ⊢
  have hbS : b ≠ S := h.su b rfl
  have hin : (i : Int) < (m : Int) := by omega
  have hi0 : (0 : Int) ≤ (i : Int) := by omega
  obtain ⟨lS, cS, -⟩ := id h.blk
  have c0 : w.cell? ⟨S, 0, none⟩ = some (.bool g.new) := cS 0
  have c6 : w.cell? ⟨S, 6, none⟩ = some (.slice (some ⟨b, 0, none⟩) m cu) := cS 6
  have HH := Lib.hid h
  have HI := Lib.hid (⟨hi, hu⟩ : g.us[i]? = some u ∧ g.us.getD i zeroU = u)
  clear hrow h hi he hu cS hm
  go_enter Try.func101, Try.ntmps101
  go_wp2_with fail
  haveI := Cw.ne w
  have hcw := fun (x : Cw w) => x.cell
  refine region_loose 16 (by kernel_rfl) (by kernel_rfl) ?_
  repeat (refine wpQB_step (fun K hK => ?_); go_simp; first | (refine hK _ ?_; clear hK K) | (apply Exists.intro; refine ⟨fun x => ?_, hK _ ?_⟩; (first | (go_at_call 20; refine (refRule_any g.new u.kind _).mono ?_; rintro e w1 ⟨rfl, b1⟩; exact ⟨rfl, b1⟩)); clear hK K))
  refine wpQB_nil ?_
  refine tail_var (T := 36) (d := 8) (r := 25) (c := #[.int .i64 (ruleOf g.new u.kind).cost, .int .i64 (ruleOf g.new u.kind).hp, .int .i64 (ruleOf g.new u.kind).speed, .int .i64 (ruleOf g.new u.kind).harm, .int .i64 (ruleOf g.new u.kind).range, .int .i64 (ruleOf g.new u.kind).load]) #[.int .i64 0, .int .i64 0, .int .i64 0, .int .i64 0, .int .i64 0, .int .i64 0] rfl rfl rfl rfl (fun _ => rfl) (fun w => by simp [go_sem]) (fun _ => rfl) (by simp) rfl (by kernel_rfl) (by simp [Value.oneCell']) (fun p => ?_)
  refine tail_value (.bool (isRule g.new u.kind)) rfl (fun w => by simp [go_sem]) ?_
  refine tail_nil ?_
  rintro w1 ⟨hb, hp, hk⟩
  obtain ⟨r, hr⟩ : ∃ r, ruleOf g.new u.kind = r := ⟨_, rfl⟩
  have HR := Lib.hid hr
  rw [hr] at hk
  try rw [hr]
  obtain ⟨lR, cR, -⟩ := id hk
  have HB := Lib.hid hb
  have HK := Lib.hid hk
  clear hcw hb hk hp hr q0 q1 q2 q3 q4 q5 q6 q7 q8 q9 q10 c0 c6
  go_wp2_with fail
  refine (refOn x y _).mono ?_
  rintro e w2 ⟨rfl, rfl⟩
  obtain ⟨ON, hON⟩ : ∃ v, onB x y = v := ⟨_, rfl⟩
  have HON := Lib.hid hON
  rw [hON]
  clear hON
  have HNO : Hid (¬ (onB x y = true ∧ 0 < r.speed) → TurnEnd w B S { g with us := goesF g.new g.us i x y } born fv (.slice (some ⟨b, 0, none⟩) m cu) bv (.returned (.tuple #[])) w1) := Lib.hid (fun hno => by
    unfold goesF
    rw [HI.out.2, HR.out, if_neg hno]
    exact ⟨rfl, HH.out.call HB.out, kp_of HB.out _⟩)
  cases ON
  case false =>
    go_wp2_with fail
    go_end0
    exact HNO.out (fun hc => by have h1 := hc.1; rw [HON.out] at h1; cases h1)
  by_cases hsp : 0 < r.speed
  case neg =>
    have d1 : decide (0 < r.speed) = false := decide_eq_false hsp
    have HS := Lib.hid hsp
    clear hsp
    go_wp2_with fail
    go_end0
    exact HNO.out (fun hc => by have h1 := HS.out; have h2 := hc.2; omega)
  have d1 : decide (0 < r.speed) = true := decide_eq_true hsp
  have HS := Lib.hid hsp
  clear hsp
  go_wp2_with fail
  refine (reftell_any B S g born fv _ bv i u 1 x y 0 _ (HH.out.call HB.out) HI.out.1).mono ?_
  rintro e w3 ⟨rfl, h3, k3⟩
  have H3 := Lib.hid h3
  have K3 := Lib.hid k3
  clear h3 k3
  go_wp2_with fail
  go_end0
  refine ⟨rfl, ?_, (kp_of HB.out _).trans K3.out (fun _ _ h => h)⟩
  unfold goesF
  rw [HI.out.2, HR.out, if_pos ⟨HON.out, HS.out⟩]
  exact H3.out

set_option maxHeartbeats 6400000 in
set_option maxRecDepth 100000 in
theorem refaims_any (B S : Nat) (g : G) (born : List Int) (fv uv bv : Value) (i : Nat) (u : U) (tg d : Int) (w : World) (h : GR w B S g born fv uv bv) (hi : g.us[i]? = some u) (hfew : g.us.length ≤ 1000) :
    Calls Try.prog 102 #[.pointer (some ⟨S, 0, none⟩), .int .i64 i, .int .i64 tg, .int .i64 d] w (TurnEnd w B S { g with us := aimsF g.new g.us i tg d } born fv uv bv) := by
  obtain ⟨hlt, he⟩ := List.getElem?_eq_some_iff.1 hi
  have hu : g.us.getD i zeroU = u := by rw [getD_lt hlt, he]
  obtain ⟨b, cu, rfl, hbB, hml⟩ := own_unit h.us hlt
  obtain ⟨a', c', ea, -, hrow, -⟩ := URow.of_ownN h.us
  cases ea
  obtain ⟨b', o', ea, -, q0, q1, q2, q3, q4, q5, q6, q7, q8, q9, q10⟩ := hrow.getN i hlt u hu
  cases ea
  simp only [Nat.zero_add] at q0 q1 q2 q3 q4 q5 q6 q7 q8 q9 q10
  obtain ⟨m, hm⟩ : ∃ m, g.us.length = m := ⟨_, rfl⟩
  rw [hm] at h hlt hml ⊢
  have hbS : b ≠ S := h.su b rfl
  have hin : (i : Int) < (m : Int) := by omega
  have hi0 : (0 : Int) ≤ (i : Int) := by omega
  have hR := h.reads hm (by omega)
  have WHO := hR.who tg ⟨w, Below.refl _ _⟩
  dsimp only at WHO
  obtain ⟨K, hK⟩ : ∃ K, ixOf g.us tg = K := ⟨_, rfl⟩
  have hrange := ixOf_range g.us tg
  rw [hK] at WHO hrange
  rw [hm] at hrange
  obtain ⟨hr1, hr2⟩ := hrange
  have c6 := hR.c6
  have lS := hR.lt
  have HR := Lib.hid hR
  have HH := Lib.hid h
  have HI := Lib.hid (⟨hi, hu⟩ : g.us[i]? = some u ∧ g.us.getD i zeroU = u)
  have HK := Lib.hid hK
  have WHO' := Lib.hid WHO
  have HM := Lib.hid hm
  have HROW := Lib.hid hrow
  clear hrow h hi he hu hR hK WHO hm
  have HNO : Hid (¬ (0 ≤ K ∧ 0 < d ∧ mayDo g.new u (g.us.getD K.toNat zeroU) = d) → ∀ w1, Below w.heap.size w w1 → TurnEnd w B S { g with us := aimsF g.new g.us i tg d } born fv (.slice (some ⟨b, 0, none⟩) m cu) bv (.returned (.tuple #[])) w1) := Lib.hid (fun hno w1 hb => by
    unfold aimsF
    rw [HI.out.2, HK.out, if_neg hno]
    exact ⟨rfl, HH.out.call hb, kp_of hb _⟩)
  go_enter Try.func102, Try.ntmps102
  go_wp2_with fail
  refine WHO'.out.mono ?_
  rintro e w2 ⟨rfl, rfl⟩
  by_cases hk : 0 ≤ K
  case neg =>
    have d1 : decide (0 ≤ K) = false := decide_eq_false hk
    have HN := Lib.hid hk
    clear hk
    go_upto_region 1 with fail
    haveI := Cw.ne w
    have hcw := fun (x : Cw w) => x.cell
    refine region_cw (by kernel_rfl) (by kernel_rfl) ?_
    repeat (go_big_quiet_step (fail))
    refine wpQuiet_nil ?_
    intro Z hZ
    have HZ := Lib.hid hZ
    clear hZ hcw
    go_wp2_with fail
    go_end0
    exact HNO.out (fun hc => by have h1 := HN.out; have h2 := hc.1; omega) _ HZ.out
  have d1 : decide (0 ≤ K) = true := decide_eq_true hk
  obtain ⟨k, rfl⟩ := Int.eq_ofNat_of_zero_le hk
  have HKP := Lib.hid hk
  clear hk
  by_cases hd : 0 < d
  case neg =>
    have d2 : decide (0 < d) = false := decide_eq_false hd
    have HN := Lib.hid hd
    clear hd
    go_upto_region 1 with fail
    haveI := Cw.ne w
    have hcw := fun (x : Cw w) => x.cell
    refine region_cw (by kernel_rfl) (by kernel_rfl) ?_
    repeat (go_big_quiet_step (fail))
    refine wpQuiet_nil ?_
    intro Z hZ
    have HZ := Lib.hid hZ
    clear hZ hcw
    go_wp2_with fail
    go_end0
    exact HNO.out (fun hc => by have h1 := HN.out; have h2 := hc.2.1; omega) _ HZ.out
  have d2 : decide (0 < d) = true := decide_eq_true hd
  have HD := Lib.hid hd
  clear hd
  obtain ⟨v, hv⟩ : ∃ v, g.us.getD k zeroU = v := ⟨_, rfl⟩
  obtain ⟨b', o', ea, -, t0, t1, t2, t3, t4, t5, t6, t7, t8, t9, t10⟩ := HROW.out.getN k (by have := HM.out; omega) v hv
  cases ea
  simp only [Nat.zero_add] at t0 t1 t2 t3 t4 t5 t6 t7 t8 t9 t10
  have HV := Lib.hid hv
  have MAY : Hid (∀ x : Cw w, Calls Try.prog 103 #[.pointer (some ⟨S, 0, none⟩), .agg #[.int .i64 u.id, .int .i64 u.owner, .int .i64 u.kind, .int .i64 u.x, .int .i64 u.y, .int .i64 u.hp, .int .i64 u.does, .int .i64 u.gx, .int .i64 u.gy, .int .i64 u.target, .int .i64 u.since], .agg #[.int .i64 v.id, .int .i64 v.owner, .int .i64 v.kind, .int .i64 v.x, .int .i64 v.y, .int .i64 v.hp, .int .i64 v.does, .int .i64 v.gx, .int .i64 v.gy, .int .i64 v.target, .int .i64 v.since]] x.w fun e w' => e = .returned (.int .i64 (mayDo g.new u v)) ∧ Below x.w.heap.size x.w w') := Lib.hid (fun x => refmay_any g.new S u v x.w (HR.out.call x.below).lt (HR.out.call x.below).c0)
  obtain ⟨M, hM⟩ : ∃ M, mayDo g.new u v = M := ⟨_, rfl⟩
  rw [hM] at MAY
  have HMM := Lib.hid hM
  clear hv hM
  go_upto_region 1 with fail
  haveI := Cw.ne w
  have hcw := fun (x : Cw w) => x.cell
  refine region_cw (by kernel_rfl) (by kernel_rfl) ?_
  repeat (go_big_quiet_step ((go_at_call 103; refine Calls.cw (MAY.out _))))
  refine wpQuiet_nil ?_
  intro Z hZ
  have HZ := Lib.hid hZ
  clear hZ hcw q0 q1 q2 q3 q4 q5 q6 q7 q8 q9 q10 t0 t1 t2 t3 t4 t5 t6 t7 t8 t9 t10 c6
  by_cases hmd : M = d
  case neg =>
    have d3 : (M == d) = false := by simp [hmd]
    have HN := Lib.hid hmd
    clear hmd
    go_wp2_with fail
    go_end0
    refine HNO.out (fun hc => ?_) _ HZ.out
    have h1 := hc.2.2
    rw [Int.toNat_natCast, HV.out, HMM.out] at h1
    exact HN.out h1
  have d3 : (M == d) = true := by simp [hmd]
  have HMD := Lib.hid hmd
  clear hmd
  go_wp2_with fail
  refine (reftell_any B S g born fv _ bv i u d 0 0 tg _ (HH.out.call HZ.out) HI.out.1).mono ?_
  rintro e w3 ⟨rfl, h3, k3⟩
  have H3 := Lib.hid h3
  have K3 := Lib.hid k3
  clear h3 k3
  go_wp2_with fail
  go_end0
  refine ⟨rfl, ?_, (kp_of HZ.out _).trans K3.out (fun _ _ h => h)⟩
  unfold aimsF
  rw [HI.out.2, HK.out, Int.toNat_natCast, HV.out, HMM.out, if_pos ⟨HKP.out, HD.out, HMD.out⟩]
  exact H3.out
end Go.Proofs.Ytlfljlhppigejaa
