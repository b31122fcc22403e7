/-
  The law TopNewer: what a tick of the newer game keeps. (Printed by gen_topnewer.py.)
-/
import Derived.Test.YtlfljlhppigejaaNewStep
import Derived.Test.YtlfljlhppigejaaRefSame
import Derived.Test.YtlfljlhppigejaaPackPure
namespace Go.Proofs.Ytlfljlhppigejaa
open Go.RowKit
attribute [local go_sem] qOne qAt qUp qOneK

def oreF (us : List U) : Int := (us.map fun u => if u.kind = 4 then u.hp else 0).sum
theorem ore_next {us : List U} {k : Nat} (hk : k < us.length) {u : U} (hu : us.getD k zeroU = u) : oreF (us.take (k + 1)) = oreF (us.take k) + if u.kind = 4 then u.hp else 0 := by
  unfold oreF
  rw [take_at hk, hu, List.map_append, List.sum_append]
  simp
theorem ore_range {us : List U} (h : ∀ u ∈ us, 0 ≤ u.hp ∧ u.hp ≤ 100) : 0 ≤ oreF us ∧ oreF us ≤ 100 * us.length := by
  induction us with
  | nil => simp [oreF]
  | cons u us ih =>
    have h1 := ih (fun v hv => h v (List.mem_cons_of_mem _ hv))
    have h2 := h u List.mem_cons_self
    have e : oreF (u :: us) = (if u.kind = 4 then u.hp else 0) + oreF us := by unfold oreF; rw [List.map_cons, List.sum_cons]
    rw [e, List.length_cons]
    split <;> omega
theorem ore_none {us : List U} (h : ∀ u ∈ us, 1 ≤ u.hp ∧ u.hp ≤ 100) (h0 : ¬ 0 < oreF us) : ∀ u ∈ us, u.kind ≠ 4 := by
  induction us with
  | nil => intro u hu; cases hu
  | cons u us ih =>
    have e : oreF (u :: us) = (if u.kind = 4 then u.hp else 0) + oreF us := by unfold oreF; rw [List.map_cons, List.sum_cons]
    have h1 := ore_range (us := us) (fun v hv => by have := h v (List.mem_cons_of_mem _ hv); omega)
    have h2 := h u List.mem_cons_self
    rw [e] at h0
    intro v hv
    rcases List.mem_cons.1 hv with rfl | hv
    · intro hk
      rw [if_pos hk] at h0
      omega
    · refine ih (fun v hv => h v (List.mem_cons_of_mem _ hv)) ?_ v hv
      intro h3
      apply h0
      split <;> omega

set_option maxHeartbeats 12800000 in
set_option maxRecDepth 100000 in
theorem wealth_any (g : G) (ua : Option Addr) (cu : Nat) (h20 : g.us.length ≤ 20) (hhp : ∀ u ∈ g.us, 0 ≤ u.hp ∧ u.hp ≤ 100) (h0 : 0 ≤ g.g0 ∧ g.g0 ≤ 1000) (h1 : 0 ≤ g.g1 ∧ g.g1 ≤ 1000) (w : World) (hu : URow true w.heap.size w ua g.us) :
    Calls Try.prog 77 #[.agg #[.int .i64 g.tick, .int .i64 g.g0, .int .i64 g.g1, .int .i64 g.next, .slice ua g.us.length cu]] w fun e w' => e = .returned (.tuple #[.int .i64 (oreF g.us), .int .i64 (g.g0 + g.g1)]) ∧ Below w.heap.size w w' := by
  obtain ⟨W, hW⟩ : ∃ W, w.alloc (.cells #[.int .i64 g.tick, .int .i64 g.g0, .int .i64 g.g1, .int .i64 g.next, .slice ua g.us.length cu] 65) = W := ⟨_, rfl⟩
  have hbW : Below w.heap.size w W := by rw [← hW]; exact (Below.refl _ _).alloc (Nat.le_refl _) _
  have k1 : Blk W w.heap.size #[.int .i64 g.tick, .int .i64 g.g0, .int .i64 g.g1, .int .i64 g.next, .slice ua g.us.length cu] := by rw [← hW]; exact Blk.new w _ _
  have HU := Lib.hid (hu.below hbW)
  have HW := Lib.hid hbW
  have K1 := Lib.hid k1
  have HHP := Lib.hid hhp
  have l1 := k1.lt
  have c1 := k1.cell
  have hs := hbW.size
  obtain ⟨g00, g01⟩ := h0
  obtain ⟨g10, g11⟩ := h1
  clear hu hbW k1 hhp
  go_enter Try.func77, Try.ntmps77
  go_upto_region 2 with fail
  try rw [hW]
  clear hW
  go_wp2_with fail
  go_loopw [4, 5] (fun a b wr => ∃ k : Nat, b = .int .i64 k ∧ k ≤ g.us.length ∧ (a = .int .i64 (oreF (g.us.take k)) ∧ wr = W)) (fun _ b _ => (g.us.length - intOf b).toNat)
  case atStart => exact ⟨0, rfl, by omega, rfl, rfl⟩
  case round =>
    obtain ⟨k, rfl, hk, rfl, rfl⟩ := hrel
    by_cases hlt : k < g.us.length
    · obtain ⟨u, hu⟩ : ∃ u, g.us.getD k zeroU = u := ⟨_, rfl⟩
      have hum : u ∈ g.us := by rw [← hu, getD_lt hlt]; exact List.getElem_mem hlt
      obtain ⟨b, o, hb, hbB, -, -, q2, -, -, q5, -⟩ := HU.out.getN k hlt u hu
      subst hb
      have hbl : b < wr.heap.size := by omega
      have hn := ore_next hlt hu
      obtain ⟨OK, hOK⟩ : ∃ x, oreF (g.us.take k) = x := ⟨_, rfl⟩
      have hr := ore_range (us := g.us.take k) (fun v hv => HHP.out v (List.mem_of_mem_take hv))
      rw [List.length_take, Nat.min_eq_left (by omega)] at hr
      rw [hOK] at hr hn
      rw [hOK]
      obtain ⟨r0, r1⟩ := hr
      have hr2 : OK ≤ 2000 := by omega
      obtain ⟨p0, p1⟩ := HHP.out u hum
      have HN := Lib.hid hn
      have hk0 : (0 : Int) ≤ (k : Int) := by omega
      have hk1 : (k : Int) < (g.us.length : Int) := by omega
      clear hu hum hn hOK r1
      by_cases k4 : u.kind = 4
      · have d4 : (u.kind == 4) = true := by simp [k4]
        have K4 := Lib.hid k4
        clear k4
        go_wp2_with fail
        go_roundw
        case rel => exact ⟨k + 1, by go_num, by omega, by rw [HN.out, if_pos K4.out], trivial⟩
        case measure => simp [intOf]; omega
      · have d4 : (u.kind == 4) = false := by simp [k4]
        have K4 := Lib.hid k4
        clear k4
        go_wp2_with fail
        go_roundw
        case rel => exact ⟨k + 1, by go_num, by omega, by rw [HN.out, if_neg K4.out, Int.add_zero], trivial⟩
        case measure => simp [intOf]; omega
    · obtain rfl : k = g.us.length := by omega
      rw [List.take_length]
      obtain ⟨OK, hOK⟩ : ∃ x, oreF g.us = x := ⟨_, rfl⟩
      rw [hOK]
      have HOK := Lib.hid hOK
      have hwg : IntKind.i64.wrap (g.g0 + g.g1) = g.g0 + g.g1 := IntWalk.i64_in _ (by omega)
      clear hOK
      go_upto_region 7 with fail
      haveI := Cw.ne wr
      have y1 : ∀ (x : Cw wr) (j : Nat), x.w.cell? ⟨w.heap.size, j, none⟩ = (#[.int .i64 g.tick, .int .i64 g.g0, .int .i64 g.g1, .int .i64 g.next, .slice ua g.us.length cu] : Array Value)[j]? := fun x j => (x.cell _ _ l1).trans (c1 j)
      have yl : ∀ x : Cw wr, w.heap.size < x.w.heap.size := fun x => by have := x.le; omega
      refine region_cw (by kernel_rfl) (by kernel_rfl) ?_
      repeat (go_big_quiet_step (fail))
      refine wpQuiet_nil ?_
      intro Z hZ
      have HZ := Lib.hid (HW.out.trans (hZ.mono hs))
      clear hZ y1 yl c1 l1
      go_wp2_with fail
      go_ret2
      exact ⟨by rw [HOK.out]; rfl, HZ.out⟩

/-- One of these was e, a step away. -/
def wasB (o e : U) : Bool := o.id == e.id && o.kind == e.kind && o.owner == e.owner && o.since == e.since && decide (far o.x o.y e.x e.y ≤ 1)
def wasF (us : List U) (e : U) : Bool := us.any fun o => wasB o e
theorem was_next {us : List U} {k : Nat} (hk : k < us.length) {o : U} (ho : us.getD k zeroU = o) (e : U) : wasF (us.take (k + 1)) e = (wasF (us.take k) e || wasB o e) := by
  unfold wasF
  rw [take_at hk, ho]
  simp
theorem own_nil {w : World} {B : Nat} {ua : Option Addr} {cu n : Nat} {xs : List Value} (h : w.ownsRow B 130 11 (.slice ua n cu) n xs) : (ua = none → n = 0 ∧ cu = 0) ∧ n ≤ cu := by
  rcases h.2 with ⟨h1, h2⟩ | ⟨g', cap', cur, h1, -, -, h4, -⟩
  · cases h1
    exact ⟨fun _ => ⟨h2, rfl⟩, by omega⟩
  · cases h1
    exact ⟨(fun e => by cases e), h4⟩
theorem stepN_new {g : G} {cs : List Cm} (hn : g.new = true) (hf : g.free = []) (hg : Right g) : (stepN g cs).new = true ∧ (stepN g cs).free = [] := by
  have T := (Track.start hg (fun _ => hf)).ords cs
  have h1 : ((cs.foldl ordF (g, [])).1).new = true := T.going.new.trans hn
  refine ⟨h1, ?_⟩
  unfold stepN endF
  dsimp only
  rw [h1, if_pos rfl]
  exact T.going.nofree h1

set_option maxHeartbeats 12800000 in
set_option maxRecDepth 100000 in
theorem topnewer_law (g : G) (ua la : Option Addr) (cu cl : Nat) (hnew : g.new = true) (hfree : g.free = []) (hcu : g.us.length ≤ 9223372036854775807) (hnil : ua = none → g.us.length = 0 ∧ cu = 0) (hcap : g.us.length ≤ cu) (cs : List Cm) (hcl : cs.length ≤ 9223372036854775807) (hkt : ∀ c ∈ cs, c.kind = c.target ∧ (Lit.int .i64 c.id).wf = true ∧ (Lit.int .i64 c.target).wf = true) (w : World)
    (hu : URow true w.heap.size w ua g.us) (hc : ORow w.heap.size w la cs) :
    Calls Try.prog 12 #[.agg #[.int .i64 g.tick, .int .i64 g.g0, .int .i64 g.g1, .int .i64 g.next, .slice ua g.us.length cu], .slice la cs.length cl] w (TrueBelow w) := by
  obtain ⟨W, hW⟩ : ∃ W, w.alloc (.cells #[.int .i64 g.tick, .int .i64 g.g0, .int .i64 g.g1, .int .i64 g.next, .slice ua g.us.length cu] 65) = W := ⟨_, rfl⟩
  have hbW : Below w.heap.size w W := by rw [← hW]; exact (Below.refl _ _).alloc (Nat.le_refl _) _
  have k1 : Blk W w.heap.size #[.int .i64 g.tick, .int .i64 g.g0, .int .i64 g.g1, .int .i64 g.next, .slice ua g.us.length cu] := by rw [← hW]; exact Blk.new w _ _
  have hsW := hbW.size
  have HU0 := Lib.hid hu
  have HUW := Lib.hid ((hu.below hbW).mono hsW)
  have HC : Hid (ORow W.heap.size W la cs) := Lib.hid (fun i hi => let ⟨b, o, h1, h2, h3⟩ := (hc.below hbW) i hi; ⟨b, o, h1, Nat.lt_of_lt_of_le h2 hsW, h3⟩)
  have HNEW := Lib.hid hnew
  have HFREE := Lib.hid hfree
  have HNIL := Lib.hid hnil
  have HKT := Lib.hid hkt
  have HW := Lib.hid hbW
  have K1 := Lib.hid k1
  obtain ⟨l1, c1, -⟩ := id k1
  clear hu hc hnew hfree hnil hkt hbW k1
  go_enter Try.func12, Try.ntmps12
  go_upto_region 1 with fail
  try rw [hW]
  clear hW
  go_wp2_with fail
  refine (nstep_any g ua la cu cl HNEW.out HFREE.out hcu cs hcl HKT.out W HUW.out HNIL.out hcap HC.out).mono ?_
  rintro e w1 ⟨b1, hcase⟩
  have HB1 : Hid (Below w.heap.size w w1) := Lib.hid (HW.out.trans (b1.mono hsW))
  have K11 := Lib.hid (K1.out.call b1)
  clear c1 l1
  rcases hcase with ⟨hne, rfl⟩ | ⟨hz, ub, cb, rfl, o1⟩
  · rw [errV_pos _ hne]
    clear hne b1
    go_upto_region 3 with fail
    refine gen_world (fun V => Below w.heap.size w V ∧ Blk V w1.heap.size #[.int .i64 0, .int .i64 0, .int .i64 0, .int .i64 0, .slice none 0 0]) ⟨HB1.out.alloc HB1.out.size _, Blk.new _ _ _⟩ ?_
    rintro V ⟨bV, kV⟩
    have BV := Lib.hid bV
    have lV := kV.lt
    have cV := kV.cell
    clear bV kV
    go_wp2_with fail
    have hsn := samenewer_any 0 0 0 0 [] none none 0 0 (by show (0 : Nat) ≤ 100000; omega) V (fun k hk => absurd hk (Nat.not_lt_zero k)) (fun k hk => absurd hk (Nat.not_lt_zero k))
    refine hsn.mono ?_
    rintro e w2 ⟨rfl, b2⟩
    have B2 := Lib.hid (BV.out.trans (b2.mono BV.out.size))
    clear b2 hsn lV cV
    go_wp2_with fail
    go_ret
    exact tb rfl B2.out
  have law := newer_law HNEW.out HFREE.out hz
  have hg : Right g := (right_iff g).1 (by unfold stepFault at hz; by_cases h : faultOf g ≠ 0; rw [if_pos h] at hz; exact absurd hz h; omega)
  have hl8 : cs.length ≤ 8 := by
    unfold stepFault at hz
    by_cases h : faultOf g ≠ 0
    · rw [if_pos h] at hz; exact absurd hz h
    · rw [if_neg h] at hz
      split at hz
      · cases hz
      · omega
  have hxn := stepN_new (cs := cs) HNEW.out HFREE.out hg
  obtain ⟨x, hx⟩ : ∃ x, stepN g cs = x := ⟨_, rfl⟩
  rw [hx] at law o1 hxn
  rw [hx]
  have hxr := (right_iff x).1 law.right
  obtain ⟨va, vc, ve, -, hrow, -⟩ := URow.of_ownN o1
  cases ve
  obtain ⟨on1, on2⟩ := own_nil o1
  have hxfew := hxr.few
  have hgfew := hg.few
  have hhead := hg.head
  unfold headBad at hhead
  have hxhead := hxr.head
  unfold headBad at hxhead
  rw [HNEW.out] at hhead
  rw [hxn.1] at hxhead
  have hr1 : richOf true = 1000 := rfl
  have ht1 : topOf true = 2000 := rfl
  rw [hr1, ht1] at hhead hxhead
  have HTK := Lib.hid law.tick
  have hnx := law.next
  have LAW := Lib.hid law
  have HG := Lib.hid hg
  have HXN := Lib.hid hxn
  have HXR := Lib.hid hxr
  have HXNIL := Lib.hid on1
  have HGH : Hid ((0 ≤ g.g0 ∧ g.g0 ≤ 1000) ∧ (0 ≤ g.g1 ∧ g.g1 ≤ 1000)) := Lib.hid (by omega)
  have HXH : Hid ((0 ≤ x.g0 ∧ x.g0 ≤ 1000) ∧ (0 ≤ x.g1 ∧ x.g1 ≤ 1000)) := Lib.hid (by omega)
  have hgt : 0 ≤ g.tick ∧ g.tick ≤ 60 := by omega
  have hgn : 1 ≤ g.next ∧ g.next ≤ 2001 := by omega
  obtain ⟨gt0, gt1⟩ := hgt
  obtain ⟨gn0, gn1⟩ := hgn
  obtain ⟨nx0, nx1⟩ := hnx
  have HGHP : Hid (∀ u ∈ g.us, 1 ≤ u.hp ∧ u.hp ≤ 100) := Lib.hid (fun u hu => by
    have ok := hg.ok hu
    have h1 := ok.hpT
    have h2 := ruleOf_bd g.new u.kind
    have h3 := ok.hp1
    split at h1 <;> omega)
  have HXHP : Hid (∀ u ∈ x.us, 0 ≤ u.hp ∧ u.hp ≤ 100) := Lib.hid (fun u hu => by
    have ok := hxr.ok hu
    have h1 := ok.hpT
    have h2 := ruleOf_bd x.new u.kind
    have h3 := ok.hp1
    split at h1 <;> omega)
  have hB1s := HB1.out.size
  have RX := Lib.hid hrow
  clear hz hx law hg hxn hxr o1 hrow on1 hhead hxhead hr1 ht1 b1
  go_upto_region 4 with fail
  have hba : Below w1.heap.size w1 (w1.alloc (.cells #[.int .i64 x.tick, .int .i64 x.g0, .int .i64 x.g1, .int .i64 x.next, .slice ub x.us.length cb] 65)) := (Below.refl _ _).alloc (Nat.le_refl _) _
  refine gen_world (fun V => Below w1.heap.size w1 V ∧ Blk V w1.heap.size #[.int .i64 x.tick, .int .i64 x.g0, .int .i64 x.g1, .int .i64 x.next, .slice ub x.us.length cb] ∧ URow true V.heap.size V ub x.us ∧ Blk V w.heap.size #[.int .i64 g.tick, .int .i64 g.g0, .int .i64 g.g1, .int .i64 g.next, .slice ua g.us.length cu]) ⟨hba, Blk.new _ _ _, (RX.out.below hba).mono hba.size, K11.out.call hba⟩ ?_
  clear hba
  rintro V ⟨bV, kX, rX, kG⟩
  obtain ⟨pX, hpX⟩ : ∃ n, w1.heap.size = n := ⟨_, rfl⟩
  rw [hpX] at kX
  try rw [hpX]
  have HPX := Lib.hid hpX
  have BV : Hid (Below w.heap.size w V) := Lib.hid (HB1.out.trans (bV.mono hB1s))
  have KX := Lib.hid kX
  have KG := Lib.hid kG
  have RXV := Lib.hid rX
  have lX := kX.lt
  have cX := kX.cell
  clear hpX bV kX rX kG RX K11
  go_wp2_with fail
  refine (ncheck_any x ub cb HXN.out.1 HXN.out.2 (by omega) _ RXV.out HXNIL.out on2).mono ?_
  rintro e w3 ⟨rfl, b3⟩
  rw [LAW.out.right, errV_zero]
  have KX3 := Lib.hid (KX.out.call b3)
  have KG3 := Lib.hid (KG.out.call b3)
  have RX3 := Lib.hid ((RXV.out.below b3).mono b3.size)
  have B3 : Hid (Below w.heap.size w w3) := Lib.hid (BV.out.trans (b3.mono BV.out.size))
  have lX3 := KX3.out.lt
  have cX3 := KX3.out.cell
  have lG3 := KG3.out.lt
  have cG3 := KG3.out.cell
  have hw1 : IntKind.i64.wrap (g.tick + 1) = g.tick + 1 := IntWalk.i64_in _ (by omega)
  have hw2 : IntKind.i64.wrap (g.next + (cs.length : Int)) = g.next + (cs.length : Int) := IntWalk.i64_in _ (by omega)
  have d1 : (x.tick != g.tick + 1) = false := by simp [HTK.out]
  have d2 : decide (x.next < g.next) = false := decide_eq_false (by omega)
  have d3 : decide (g.next + (cs.length : Int) < x.next) = false := decide_eq_false (by omega)
  clear b3 cX lX KX KG RXV BV
  go_upto_region 6 with fail
  clear cX3 lX3 cG3 lG3 hw1 hw2 d1 d2 d3
  go_wp2_with fail
  go_loopw [7] (fun a wr => ∃ i : Nat, a = .int .i64 i ∧ i ≤ x.us.length ∧ Below w3.heap.size w3 wr) (fun a _ => (x.us.length - intOf a).toNat)
  case atStart => exact ⟨0, rfl, by omega, Below.refl _ _⟩
  case round =>
    obtain ⟨i, rfl, hi, hX⟩ := hrel
    have HX := Lib.hid hX
    have hszr := hX.size
    have KXR := Lib.hid (KX3.out.call hX)
    have KGR := Lib.hid (KG3.out.call hX)
    have lXR := KXR.out.lt
    have cXR := KXR.out.cell
    have hrer := RX3.out.below hX
    clear hX
    by_cases hlt : i < x.us.length
    · obtain ⟨e, he⟩ : ∃ e, x.us.getD i zeroU = e := ⟨_, rfl⟩
      have hem : e ∈ x.us := by rw [← he, getD_lt hlt]; exact List.getElem_mem hlt
      obtain ⟨b, o, hea, hbB, q0, q1, q2, q3, q4, q5, q6, q7, q8, q9, q10⟩ := hrer.getN i hlt e he
      subst hea
      have hbr : b < wr.heap.size := by omega
      have hi0 : (0 : Int) ≤ (i : Int) := by omega
      have hil : (i : Int) < (x.us.length : Int) := by omega
      have HE := Lib.hid hem
      have HLT := Lib.hid hlt
      clear he hem hrer
      go_upto_region 11 with fail
      refine gen_world (fun V => Below wr.heap.size wr V ∧ Blk V wr.heap.size #[.int .i64 e.id, .int .i64 e.owner, .int .i64 e.kind, .int .i64 e.x, .int .i64 e.y, .int .i64 e.hp, .int .i64 e.does, .int .i64 e.gx, .int .i64 e.gy, .int .i64 e.target, .int .i64 e.since]) ⟨(Below.refl _ _).alloc (Nat.le_refl _) _, Blk.new _ _ _⟩ ?_
      rintro V ⟨bV, kE⟩
      obtain ⟨pE, hpE⟩ : ∃ n, wr.heap.size = n := ⟨_, rfl⟩
      rw [hpE] at kE
      try rw [hpE]
      have BV : Hid (Below w3.heap.size w3 V) := Lib.hid (HX.out.trans (bV.mono hszr))
      have KE := Lib.hid kE
      have KGV := Lib.hid (KGR.out.call bV)
      have KXV := Lib.hid (KXR.out.call bV)
      clear hpE bV kE q0 q1 q2 q3 q4 q5 q6 q7 q8 q9 q10 cXR lXR hbr hbB KGR KXR
      go_wp2_with fail
      go_loopw [9, 10] (fun c a wx => ∃ k : Nat, a = .int .i64 k ∧ k ≤ g.us.length ∧ (c = .bool (wasF (g.us.take k) e) ∧ Below V.heap.size V wx)) (fun _ a _ => (g.us.length - intOf a).toNat)
      case atStart => exact ⟨0, rfl, by omega, rfl, Below.refl _ _⟩
      case round =>
        obtain ⟨k, rfl, hk, rfl, hY⟩ := hrel
        have HY := Lib.hid hY
        have hszY := hY.size
        have hGU : URow true wr.heap.size wr ua g.us := ((HU0.out.below (B3.out.trans (BV.out.mono B3.out.size))).below (hY.mono (by have := B3.out.size; have := BV.out.size; omega))).mono (by have := B3.out.size; have := BV.out.size; omega)
        have KEY := Lib.hid (KE.out.call hY)
        have KGY := Lib.hid (KGV.out.call hY)
        have lE := KEY.out.lt
        have cE := KEY.out.cell
        have lG := KGY.out.lt
        have cG := KGY.out.cell
        clear hY
        by_cases hkl : k < g.us.length
        · obtain ⟨y, hy⟩ : ∃ y, g.us.getD k zeroU = y := ⟨_, rfl⟩
          have hym : y ∈ g.us := by rw [← hy, getD_lt hkl]; exact List.getElem_mem hkl
          obtain ⟨b2, o2, hb2, hbB2, p0, p1, p2, p3, p4, p5, p6, p7, p8, p9, p10⟩ := hGU.getN k hkl y hy
          subst hb2
          have HNX := Lib.hid (was_next hkl hy e)
          have HYM := Lib.hid hym
          have HKL := Lib.hid hkl
          have hk0 : (0 : Int) ≤ (k : Int) := by omega
          have hkl2 : (k : Int) < (g.us.length : Int) := by omega
          obtain ⟨cbb, hcb⟩ : ∃ c, wasF (g.us.take k) e = c := ⟨_, rfl⟩
          rw [hcb]
          have HCB := Lib.hid hcb
          clear hy hym hcb hGU
          go_upto_region 15 with fail
          refine gen_world (fun Z => Below wr.heap.size wr Z ∧ Blk Z wr.heap.size #[.int .i64 y.id, .int .i64 y.owner, .int .i64 y.kind, .int .i64 y.x, .int .i64 y.y, .int .i64 y.hp, .int .i64 y.does, .int .i64 y.gx, .int .i64 y.gy, .int .i64 y.target, .int .i64 y.since]) ⟨(Below.refl _ _).alloc (Nat.le_refl _) _, Blk.new _ _ _⟩ ?_
          rintro Z ⟨bZ, kY⟩
          obtain ⟨pY, hpY⟩ : ∃ n, wr.heap.size = n := ⟨_, rfl⟩
          rw [hpY] at kY
          try rw [hpY]
          have BZ : Hid (Below V.heap.size V Z) := Lib.hid (HY.out.trans (bZ.mono hszY))
          have kEZ := KEY.out.call bZ
          have lEZ := kEZ.lt
          have cEZ := kEZ.cell
          have lYZ := kY.lt
          have cYZ := kY.cell
          clear hpY bZ kY kEZ p0 p1 p2 p3 p4 p5 p6 p7 p8 p9 p10 hbB2 lE cE lG cG
          cases cbb
          case true =>
            go_wp2_with fail
            go_roundw
            case rel => exact ⟨k + 1, by go_num, by have := HKL.out; omega, by rw [HNX.out, HCB.out, Bool.true_or], BZ.out⟩
            case measure => have := HKL.out; simp [intOf]; omega
          by_cases h0 : y.id = e.id
          case neg =>
            have d0 : (y.id == e.id) = false := by simp [h0]
            have HW5 : Hid (wasB y e = false) := Lib.hid (by unfold wasB; rw [d0]; simp)
            clear h0
            go_wp2_with fail
            go_roundw
            case rel => exact ⟨k + 1, by go_num, by have := HKL.out; omega, by rw [HNX.out, HCB.out, HW5.out]; rfl, BZ.out⟩
            case measure => have := HKL.out; simp [intOf]; omega
          have d0 : (y.id == e.id) = true := by simp [h0]
          have D0 := Lib.hid d0
          clear h0
          by_cases h1 : y.kind = e.kind
          case neg =>
            have d1 : (y.kind == e.kind) = false := by simp [h1]
            have HW5 : Hid (wasB y e = false) := Lib.hid (by unfold wasB; rw [d1]; simp)
            clear h1
            go_wp2_with fail
            go_roundw
            case rel => exact ⟨k + 1, by go_num, by have := HKL.out; omega, by rw [HNX.out, HCB.out, HW5.out]; rfl, BZ.out⟩
            case measure => have := HKL.out; simp [intOf]; omega
          have d1 : (y.kind == e.kind) = true := by simp [h1]
          have D1 := Lib.hid d1
          clear h1
          by_cases h2 : y.owner = e.owner
          case neg =>
            have d2 : (y.owner == e.owner) = false := by simp [h2]
            have HW5 : Hid (wasB y e = false) := Lib.hid (by unfold wasB; rw [d2]; simp)
            clear h2
            go_wp2_with fail
            go_roundw
            case rel => exact ⟨k + 1, by go_num, by have := HKL.out; omega, by rw [HNX.out, HCB.out, HW5.out]; rfl, BZ.out⟩
            case measure => have := HKL.out; simp [intOf]; omega
          have d2 : (y.owner == e.owner) = true := by simp [h2]
          have D2 := Lib.hid d2
          clear h2
          by_cases h3 : y.since = e.since
          case neg =>
            have d3 : (y.since == e.since) = false := by simp [h3]
            have HW5 : Hid (wasB y e = false) := Lib.hid (by unfold wasB; rw [d3]; simp)
            clear h3
            go_wp2_with fail
            go_roundw
            case rel => exact ⟨k + 1, by go_num, by have := HKL.out; omega, by rw [HNX.out, HCB.out, HW5.out]; rfl, BZ.out⟩
            case measure => have := HKL.out; simp [intOf]; omega
          have d3 : (y.since == e.since) = true := by simp [h3]
          have D3 := Lib.hid d3
          clear h3
          have ov := (onB_iff _ _).1 (HG.out.ok HYM.out).on
          have oe := (onB_iff _ _).1 (HXR.out.ok HE.out).on
          go_wp2_with fail
          refine (rFar y.x y.y e.x e.y _ (by omega) (by omega) (by omega) (by omega)).mono ?_
          rintro e' w' ⟨rfl, rfl⟩
          by_cases hf : far y.x y.y e.x e.y ≤ 1
          · have d5 : decide (far y.x y.y e.x e.y ≤ 1) = true := decide_eq_true hf
            have HF := Lib.hid hf
            have HW5 : Hid (wasB y e = true) := Lib.hid (by unfold wasB; rw [D0.out, D1.out, D2.out, D3.out, d5]; rfl)
            clear hf
            go_wp2_with fail
            go_roundw
            case rel => exact ⟨k + 1, by go_num, by have := HKL.out; omega, by rw [HNX.out, HW5.out, Bool.or_true], BZ.out⟩
            case measure => have := HKL.out; simp [intOf]; omega
          · have d5 : decide (far y.x y.y e.x e.y ≤ 1) = false := decide_eq_false hf
            have HW5 : Hid (wasB y e = false) := Lib.hid (by unfold wasB; rw [d5, Bool.and_false])
            clear hf
            go_wp2_with fail
            go_roundw
            case rel => exact ⟨k + 1, by go_num, by have := HKL.out; omega, by rw [HNX.out, HCB.out, HW5.out]; rfl, BZ.out⟩
            case measure => have := HKL.out; simp [intOf]; omega
        · obtain rfl : k = g.us.length := by omega
          rw [List.take_length]
          have hHere := LAW.out.here e HE.out
          have HB4 : Hid (Below w3.heap.size w3 wr) := Lib.hid (BV.out.trans (HY.out.mono BV.out.size))
          obtain ⟨cbb, hcb⟩ : ∃ c, wasF g.us e = c := ⟨_, rfl⟩
          rw [hcb]
          cases cbb
          case true =>
            clear hHere hcb
            go_wp2_with fail
            go_roundw
            case rel => exact ⟨i + 1, by go_num, by have := HLT.out; omega, HB4.out⟩
            case measure => have := HLT.out; simp [intOf]; omega
          have hnew2 : g.next ≤ e.id ∧ e.since = g.tick := by
            rcases hHere with ⟨o, ho, h1, h2, h3, h4, h5⟩ | h
            · exfalso
              have : wasF g.us e = true := by
                unfold wasF
                rw [List.any_eq_true]
                refine ⟨o, ho, ?_⟩
                unfold wasB
                rw [decide_eq_true h5]
                simp [h1, h2, h3, h4]
              rw [hcb] at this
              cases this
            · exact h
          have d6 : decide (e.id < g.next) = false := decide_eq_false (by omega)
          have d7 : (e.since != g.tick) = false := by simp [hnew2.2]
          clear hHere hcb hnew2
          go_wp2_with fail
          go_roundw
          case rel => exact ⟨i + 1, by go_num, by have := HLT.out; omega, HB4.out⟩
          case measure => have := HLT.out; simp [intOf]; omega
    · obtain rfl : i = x.us.length := by omega
      have lGR := KGR.out.lt
      have cGR := KGR.out.cell
      have hGU : URow true wr.heap.size wr ua g.us := (HU0.out.below (B3.out.trans (HX.out.mono B3.out.size))).mono (by have := B3.out.size; omega)
      have HGU := Lib.hid hGU
      have HXU := Lib.hid (hrer.mono hszr)
      clear hGU hrer
      go_wp2_with fail
      refine (wealth_any g ua cu hgfew (fun u hu => by have := HGHP.out u hu; omega) HGH.out.1 HGH.out.2 _ HGU.out).mono ?_
      rintro e' w5 ⟨rfl, b5⟩
      have HXU5 := Lib.hid ((HXU.out.below b5).mono b5.size)
      have KX5 := Lib.hid (KXR.out.call b5)
      have B5 : Hid (Below w.heap.size w w5) := Lib.hid ((B3.out.trans (HX.out.mono B3.out.size)).trans (b5.mono (by have := B3.out.size; omega)))
      have lX5 := KX5.out.lt
      have cX5 := KX5.out.cell
      clear b5 lGR cGR lXR cXR
      go_wp2_with fail
      refine (wealth_any x ub cb hxfew HXHP.out HXH.out.1 HXH.out.2 _ HXU5.out).mono ?_
      rintro e' w6 ⟨rfl, b6⟩
      have B6 := Lib.hid (B5.out.trans (b6.mono B5.out.size))
      clear b6 lX5 cX5
      by_cases ho : 0 < oreF g.us
      · have d8 : decide (0 < oreF g.us) = true := decide_eq_true ho
        clear ho
        go_wp2_with fail
        go_ret
        exact tb rfl B6.out
      · have d8 : decide (0 < oreF g.us) = false := decide_eq_false ho
        have hp := LAW.out.poor (ore_none HGHP.out ho)
        have d9 : decide (x.g0 + x.g1 ≤ g.g0 + g.g1) = true := decide_eq_true hp
        clear ho hp
        go_wp2_with fail
        go_ret
        exact tb rfl B6.out
end Go.Proofs.Ytlfljlhppigejaa
