/-
  The walk of elder.bury.
-/
import Derived.Test.YtlfljlhppigejaaElderWork
namespace Go.Proofs.Ytlfljlhppigejaa
open Go.RowKit
attribute [local go_sem] qOne qAt qUp qOneK

/-- Another row of units. -/
theorem GE.putU {w : World} {B S : Nat} {g : G} {born : List Int} {fv ev bv lv : Value} (h : GE w B S g born fv ev bv) {us : List U} (own : w.ownsRow B 179 10 lv us.length (cellsAll us)) (hS : ∀ b, lv.ownBlock = some b → b ≠ S) (hf : ∀ b, fv.ownBlock = some b → lv.ownBlock ≠ some b) (hb : ∀ b, lv.ownBlock = some b → bv.ownBlock ≠ some b) :
    GE (w.setCell ⟨S, 5, none⟩ lv) B S { g with us := us } born fv lv bv := by
  obtain ⟨h1, h2, h3, h4⟩ := h.store (i := 5) (by decide) lv
  exact ⟨by simpa using h1, h.base, h2, own_kp own (Kp.setCell w ⟨S, 5, none⟩ lv) (fun b hb e => hS b hb e), h4, h.sf, hS, h.sb, hf, h.fb, hb⟩

theorem own_poke {w : World} {B gg cap : Nat} {us : List U} {n : Nat} (h : w.ownsRow B 179 10 (.slice (some ⟨gg, 0, none⟩) n cap) n (cellsAll us)) (hn : us.length = n) {k j : Nat} (hk : k < n) (hj : j < 10) {v : Value} {u' : U} (hu : cellsE u' = (cellsE (us.getD k zeroU)).set j v) :
    (w.setCell ⟨gg, k * 10 + j, none⟩ v).ownsRow B 179 10 (.slice (some ⟨gg, 0, none⟩) n cap) n (cellsAll (us.set k u')) := by
  obtain ⟨h1, h2⟩ := World.ownsRow.stored h (k * 10 + j) v
  rw [cellsAll_set (by omega) hj hu] at h1
  exact h1
theorem byId_ids {us vs : List U} (h : idsOf us = idsOf vs) (hs : byId vs) : byId us := by
  have hp : (idsOf vs).Pairwise (· < ·) := by
    unfold idsOf
    rw [List.pairwise_map]
    exact hs
  rw [← h] at hp
  unfold idsOf at hp
  rw [List.pairwise_map] at hp
  exact hp
theorem idle_id (L : List U) (u : U) : (idleF L u).id = u.id := by
  unfold idleF tellU
  split <;> rfl
/-- What bury wants of a state. -/
structure Buriable (g : G) : Prop where
  few : g.us.length ≤ 20
  unfree : g.free.length ≤ 1000
  sorted : byId g.us
  still : ∀ u ∈ g.us, 0 < u.target → u.gx = 0 ∧ u.gy = 0

set_option maxHeartbeats 12800000 in
set_option maxRecDepth 100000 in
theorem bury_any (w : World) (B S : Nat) (g : G) (born : List Int) (fv ev bv : Value) (h : GE w B S g born fv ev bv) (hB : B ≤ w.heap.size) (hg : Buriable g) :
    Calls Try.prog 120 #[.pointer (some ⟨S, 0, none⟩)] w fun e w' => e = .returned (.tuple #[]) ∧ Gone w B S ({ g with free := g.free ++ goneF g.us, us := (leftF g.us).map (idleF (leftF g.us)) }, born) e w' := by
  have hfew := hg.few
  have hunf := hg.unfree
  obtain ⟨ua, uc, rfl, -, hrow, hua⟩ := URow.of_own h.us
  have hS := h.blk.lt
  have hevL : ∀ b, (Value.slice ua g.us.length uc).ownBlock = some b → b < w.heap.size := fun b hb => (World.ownsRow.lt h.us b hb).2
  have HEVL := Lib.hid hevL
  have hbvL : ∀ b, bv.ownBlock = some b → b < w.heap.size := fun b hb => (World.ownsRow.lt h.bo b hb).2
  have HBVL := Lib.hid hbvL
  have hfvB : ∀ b, fv.ownBlock = some b → B ≤ b := fun b hb => (World.ownsRow.lt h.fr b hb).1
  have HFVB := Lib.hid hfvB
  have hfe := h.fe
  have HFE := Lib.hid hfe
  have hfb := h.fb
  have HFB := Lib.hid hfb
  have hbase := h.base
  have hS5 : w.cell? ⟨S, 5, none⟩ = some (.slice ua g.us.length uc) := by rw [h.blk.cell]; rfl
  have HG := Lib.hid hg
  have HH := Lib.hid h
  have HROW := Lib.hid hrow
  have hn0 : (0 : Int) ≤ (g.us.length : Int) := by omega
  clear h hrow hua hevL hbvL hfvB hfe hfb hg
  go_enter Try.func120, Try.ntmps120
  go_wp2_with fail
  go_loopw [2, 12] (fun lv a wr => ∃ k : Nat, a = .int .i64 k ∧ k ≤ g.us.length ∧ ((∃ fv', GE wr B S { g with free := g.free ++ goneF (g.us.take k) } born fv' (.slice ua g.us.length uc) bv ∧ (∀ b, fv'.ownBlock = some b → lv.ownBlock ≠ some b) ∧ (∀ b, fv'.ownBlock = some b → fv.ownBlock = some b ∨ w.heap.size ≤ b)) ∧ Kp (fun k => k = S ∨ fv.ownBlock = some k) w wr ∧ wr.ownsRow w.heap.size 179 10 lv (leftF (g.us.take k)).length (cellsAll (leftF (g.us.take k))))) (fun _ a _ => (g.us.length - intOf a).toNat)
  case atStart =>
    refine ⟨0, rfl, by omega, ⟨fv, ?_, fun b _ e => (by cases e), fun b hb => Or.inl hb⟩, Kp.refl _ _, World.ownsRow_nil _ _ _ _⟩
    have : g.free ++ goneF (g.us.take 0) = g.free := by simp [goneF]
    rw [this]
    exact HH.out
  case round =>
    obtain ⟨k, rfl, hk, hX⟩ := hrel
    have HX := Lib.hid hX
    clear hX hS5
    by_cases hlt : k < g.us.length
    · obtain ⟨u, hu⟩ : ∃ u, g.us.getD k zeroU = u := ⟨_, rfl⟩
      have hum : u ∈ g.us := by rw [← hu, getD_lt hlt]; exact List.getElem_mem hlt
      obtain ⟨⟨fv', ger, hdis, hfo⟩, kpr, ownL⟩ := HX.out
      have HFO := Lib.hid hfo
      obtain ⟨FR, hFR⟩ : ∃ l, g.free ++ goneF (g.us.take k) = l := ⟨_, rfl⟩
      rw [hFR] at ger
      have HFR := Lib.hid hFR
      have our : wr.ownsRow B 179 10 (.slice ua g.us.length uc) g.us.length (cellsAll g.us) := ger.us
      obtain ⟨a', c', he', -, hrw, -⟩ := URow.of_own our
      cases he'
      obtain ⟨b, o, hua, hbB, q0, q1, q2, q3, q4, q5, q6, q7, q8, q9⟩ := hrw.getE k hlt u hu
      have hszr := kpr.size
      subst hua
      have hki : (0 : Int) ≤ (k : Int) := by omega
      have hkl : (k : Int) < (g.us.length : Int) := by omega
      obtain ⟨V, hV⟩ : ∃ V, wr.alloc (.cells #[.int .i64 u.id, .int .i64 u.owner, .int .i64 u.kind, .int .i64 u.x, .int .i64 u.y, .int .i64 u.hp, .int .i64 u.does, .int .i64 u.gx, .int .i64 u.gy, .int .i64 u.target] 179) = V := ⟨_, rfl⟩
      have hbV : Below wr.heap.size wr V := by rw [← hV]; exact (Below.refl _ _).alloc (Nat.le_refl _) _
      have hkE : Blk V wr.heap.size #[.int .i64 u.id, .int .i64 u.owner, .int .i64 u.kind, .int .i64 u.x, .int .i64 u.y, .int .i64 u.hp, .int .i64 u.does, .int .i64 u.gx, .int .i64 u.gy, .int .i64 u.target] := by rw [← hV]; exact Blk.new wr _ _
      have hll : (leftF (g.us.take k)).length ≤ 20 := by
        unfold leftF
        refine Nat.le_trans (List.length_filter_le _ _) ?_
        rw [List.length_take]; omega
      have hgl : (goneF (g.us.take k)).length ≤ 20 := by
        unfold goneF
        rw [List.length_map]
        refine Nat.le_trans (List.length_filter_le _ _) ?_
        rw [List.length_take]; omega
      obtain ⟨L, hL⟩ : ∃ L, leftF (g.us.take k) = L := ⟨_, rfl⟩
      rw [hL] at ownL hll
      obtain ⟨lva, lvc, rfl⟩ := own_slice ownL
      have lvB : ∀ b, (Value.slice lva L.length lvc).ownBlock = some b → w.heap.size ≤ b := fun b hb => (World.ownsRow.lt ownL b hb).1
      have HU := Lib.hid hu
      have HL := Lib.hid hL
      have HBV := Lib.hid hbV
      have HKE := Lib.hid hkE
      have GER := Lib.hid ger
      have KPR := Lib.hid kpr
      have HDIS := Lib.hid hdis
      have OWNL := Lib.hid ownL
      have LVB := Lib.hid lvB
      obtain ⟨lE, cE, -⟩ := id hkE
      clear hu hum ger hdis hfo hFR kpr ownL our hrw hbV hkE hL lvB HX
      by_cases hp : 0 < u.hp
      · have HP := Lib.hid hp
        obtain ⟨i1, hj0, hj1, hj2, hj3⟩ := info_parts infoEnt
        have hbVb : Below V.heap.size V (V.alloc (.cells #[.int .i64 u.id, .int .i64 u.owner, .int .i64 u.kind, .int .i64 u.x, .int .i64 u.y, .int .i64 u.hp, .int .i64 u.does, .int .i64 u.gx, .int .i64 u.gy, .int .i64 u.target] 179)) := (Below.refl _ _).alloc (Nat.le_refl _) _
        have hVs := HBV.out.size
        have oB := own_kp (own_kp OWNL.out (kp_of HBV.out (fun _ => False)) (fun _ _ x => x)) (kp_of hbVb (fun _ => False)) (fun _ _ x => x)
        obtain ⟨g2, cap, w5, r5, own5, grow5, hat5, lt5⟩ := run_append_lies (P := Try.prog) (V.alloc (.cells #[.int .i64 u.id, .int .i64 u.owner, .int .i64 u.kind, .int .i64 u.x, .int .i64 u.y, .int .i64 u.hp, .int .i64 u.does, .int .i64 u.gx, .int .i64 u.gy, .int .i64 u.target] 179)) 88 88 w.heap.size 179 i1 _ 10 80 Try.underlying88 hj0 hj1 hj2 hj3 rfl (by omega) (.slice lva L.length lvc) L.length (cellsAll L) oB ⟨V.heap.size, 0, none⟩ 1 1 (cellsE u) rfl (World.news_of_block (cs := #[.int .i64 u.id, .int .i64 u.owner, .int .i64 u.kind, .int .i64 u.x, .int .i64 u.y, .int .i64 u.hp, .int .i64 u.does, .int .i64 u.gx, .int .i64 u.gy, .int .i64 u.target]) (t := 179) (fr := (0, 0)) (heap_alloc_new V _)) (by intro q hq; simp [cellsE] at hq; rcases hq with h | h | h | h | h | h | h | h | h | h <;> rw [h] <;> rfl) (by omega) (by unfold maxLen; omega) (by omega) (by have := hbVb.size; omega) (V.heap.size + 1) (by simp)
        have HBVB := Lib.hid hbVb
        have OWN5 := Lib.hid own5
        have GROW5 := Lib.hid grow5
        have HAT5 := Lib.hid hat5
        clear hj0 hj1 hj2 hj3 hbVb oB own5 grow5 hat5
        go_wp2_with (at_builtin; refine list_run_append (by rfl) _ _ _ _ (by rfl) (by rfl) (by rfl) (by rfl) r5 ?_)
        go_roundw
        case rel =>
          have hgn : goneF (g.us.take (k + 1)) = goneF (g.us.take k) := by rw [gone_next hlt HU.out, if_pos HP.out]
          have hln : leftF (g.us.take (k + 1)) = L ++ [u] := by rw [left_next hlt HU.out, if_pos HP.out, HL.out]
          have hbb := HBV.out.trans (HBVB.out.mono HBV.out.size)
          have kg := Kp.grown GROW5.out
          have ge5 := (GER.out.call hbb).kp kg (fun e => by have := LVB.out S e.symm; omega) (fun c hc e => HDIS.out c hc e.symm) (fun c hc e => by have := LVB.out c e.symm; have := HEVL.out c hc; omega) (fun c hc e => by have := LVB.out c e.symm; have := HBVL.out c hc; omega)
          have kp5 := (KPR.out.then_ hbb).trans kg (fun c hc e => absurd (LVB.out c e.symm) (by omega))
          have hfl := World.ownsRow.lt GER.out.fr
          refine ⟨k + 1, by go_num, by omega, ⟨fv', by rw [hgn, HFR.out]; exact ge5, fun c hc e => ?_, HFO.out⟩, kp5, ?_⟩
          · rcases HAT5.out with h1 | h1
            · exact HDIS.out c hc (h1.trans (show some g2 = some c from e))
            · have h2 : g2 = c := Option.some.inj (show some g2 = some c from e)
              have h3 := (hfl c hc).2
              omega
          · rw [hln, List.length_append, cellsAll_append]
            exact OWN5.out
        case measure => simp [intOf]; omega
      · have HP := Lib.hid hp
        have hVs := HBV.out.size
        have geV := GER.out.call HBV.out
        obtain ⟨lS, cS, fS⟩ := id geV.blk
        have hS4 : V.cell? ⟨S, 4, none⟩ = some fv' := by rw [cS]; rfl
        have hF4 : V.frozen? ⟨S, 4, none⟩ = false := fS 4
        have nS : fv'.ownBlock ≠ some S := fun e => geV.sf S e rfl
        have nE : fv'.ownBlock ≠ some wr.heap.size := fun e => by have := (World.ownsRow.lt GER.out.fr _ e).2; omega
        have hE0 : V.cell? ⟨wr.heap.size, 0, none⟩ = some (.int .i64 u.id) := by rw [cE]; rfl
        have hBV : B ≤ V.heap.size := by omega
        obtain ⟨i1, hi0, hz0, hz1, hz2⟩ := info_parts infoInt
        have OFR := Lib.hid geV.fr
        have hfl2 : FR.length ≤ 100000 := by rw [← HFR.out, List.length_append]; omega
        have GEV := Lib.hid geV
        clear geV cS fS
        go_upto_region 6 with fail
        haveI := Kw.ne (fun k => fv'.ownBlock = some k) V
        have kx1 : ∀ x : Kw (fun k => fv'.ownBlock = some k) V, x.w.cell? ⟨S, 4, none⟩ = some fv' := fun x => (x.cell _ _ lS nS).trans hS4
        have kx2 : ∀ x : Kw (fun k => fv'.ownBlock = some k) V, x.w.cell? ⟨wr.heap.size, 0, none⟩ = some (.int .i64 u.id) := fun x => (x.cell _ _ lE nE).trans hE0
        refine region_mix 10 [(false, 0), (false, 1), (false, 2), (false, 3), (false, 4), (false, 5), (false, 6), (false, 7), (true, 8), (true, 9)] (kcl (fun k => fv'.ownBlock = some k) V (fun x => x.ownsRow B 3 1 fv' FR.length (intCells FR)) (fun x x' h hb => own_kp h (kp_of hb (fun _ => False)) (fun _ _ y => y))) ⟨Kp.drew _ _, OFR.out⟩ (by kernel_rfl) (by kernel_rfl) ?_
        simp only [stepsOf, List.filterMap_cons, List.filterMap_nil, List.getElem?_toArray, List.getElem?_cons_zero, List.getElem?_cons_succ, Option.map_some, List.drop_succ_cons, List.drop_zero]
        repeat (refine mix_readK (fun K hK => ?_); go_simp; refine hK _ ?_; clear hK K)
        refine mix_new (fun q => .slice (some ⟨q, 0, none⟩) 1 1) #[.int .i64 u.id] 3 rfl (fun w => by simp [go_sem]) (fun q => ?_)
        refine mix_append q #[.int .i64 u.id] 3 (.tmp 28) (.tmp 31) 87 rfl rfl B 3 i1 _ 1 8 Try.underlying87 hi0 hz0 hz1 hz2 rfl (by omega) fv' FR.length (intCells FR) rfl rfl OFR.out rfl (by simp [Value.oneCell']) (by unfold maxLen; omega) (by omega) hBV (fun k => Iff.rfl) (fun w h => ⟨h.2.1, h.2.2.2⟩) (fun w _ h => h.1) (fun g2 cap2 => ?_)
        refine mix_nil ?_
        rintro w14 ⟨k14, own14, hgg⟩
        have gf14 := GEV.out.growF (gg := g2) (cap := cap2) (l := FR ++ [u.id]) k14 (by
          rw [List.length_append]
          have : intCells (FR ++ [u.id]) = intCells FR ++ [.int .i64 u.id] := by simp [intCells]
          rw [this]
          exact own14) hgg
        rw [List.length_append, List.length_singleton] at gf14
        have hS14 : w14.cell? ⟨S, 4, none⟩ = some fv' := (k14.cell _ _ lS nS).trans hS4
        have hF14 : w14.frozen? ⟨S, 4, none⟩ = false := (k14.frozen _ _ lS nS).trans hF4
        have hfl := World.ownsRow.lt GER.out.fr
        have kp14 := ((KPR.out.then_ HBV.out).trans k14 (fun c hc e => by rcases HFO.out c e with h1 | h1; exact Or.inr h1; omega))
        have ol14 := own_kp (own_kp OWNL.out (kp_of HBV.out (fun _ => False)) (fun _ _ x => x)) k14 (fun c hc e => HDIS.out c e hc)
        have dis14 : ∀ c, (Value.slice (some ⟨g2, 0, none⟩) (FR.length + 1) cap2).ownBlock = some c → (Value.slice lva L.length lvc).ownBlock ≠ some c := by
          intro c hc e
          have h2 : g2 = c := Option.some.inj (show some g2 = some c from hc)
          rcases hgg with h1 | h1
          · exact HDIS.out c (by rw [← h2]; exact h1) e
          · have h3 := (World.ownsRow.lt OWNL.out c e).2
            omega
        have fo14 : ∀ c, (Value.slice (some ⟨g2, 0, none⟩) (FR.length + 1) cap2).ownBlock = some c → fv.ownBlock = some c ∨ w.heap.size ≤ c := by
          intro c hc
          have h2 : g2 = c := Option.some.inj (show some g2 = some c from hc)
          rcases hgg with h1 | h1
          · exact HFO.out c (by rw [← h2]; exact h1)
          · right; omega
        iterate 3 (refine wpList_plain rfl (fun K hK => ?_); go_simp; refine hK _ _ ?_; clear hK K)
        refine list_store1 S 4 (.slice (some ⟨g2, 0, none⟩) (FR.length + 1) cap2) 87 (.tmp 35) (.tmp 32) rfl rfl rfl rfl rfl (by rw [hS14]; rfl) hF14 rfl (by kernel_rfl) (fun Z => GE Z B S { g with free := FR ++ [u.id] } born (.slice (some ⟨g2, 0, none⟩) (FR.length + 1) cap2) (.slice (some ⟨b, o, none⟩) g.us.length uc) bv ∧ Kp (fun k => k = S ∨ fv.ownBlock = some k) w Z ∧ Z.ownsRow w.heap.size 179 10 (.slice lva L.length lvc) L.length (cellsAll L)) ⟨gf14, kp14.andset ⟨S, 4, none⟩ _ (Or.inl rfl), own_kp ol14 (Kp.setCell w14 ⟨S, 4, none⟩ _) (fun c hc e => by have h1 := LVB.out c hc; have h2 : c = S := e; omega)⟩ ?_
        rintro Z ⟨geZ, kpZ, oZ⟩
        have GZ := Lib.hid geZ
        have KZ := Lib.hid kpZ
        have OZ := Lib.hid oZ
        have D14 := Lib.hid dis14
        have F14 := Lib.hid fo14
        clear geZ kpZ oZ dis14 fo14 gf14 kp14 ol14 hS14 hF14 k14 own14 hgg kx1 kx2 hS4 hF4 hE0
        go_wp2_with fail
        go_roundw
        case rel =>
          have hgn : goneF (g.us.take (k + 1)) = goneF (g.us.take k) ++ [u.id] := by rw [gone_next hlt HU.out, if_neg HP.out]
          have hln : leftF (g.us.take (k + 1)) = L := by rw [left_next hlt HU.out, if_neg HP.out, HL.out]
          refine ⟨k + 1, by go_num, by omega, ⟨_, by rw [hgn, ← List.append_assoc, HFR.out]; exact GZ.out, D14.out, F14.out⟩, KZ.out, ?_⟩
          rw [hln]
          exact OZ.out
        case measure => simp [intOf]; omega
    · obtain rfl : k = g.us.length := by omega
      obtain ⟨⟨fv', ger, hdis, hfo⟩, kpr, ownL⟩ := HX.out
      rw [List.take_length] at ger ownL
      obtain ⟨L, hL⟩ : ∃ L, leftF g.us = L := ⟨_, rfl⟩
      rw [hL] at ownL
      have hLm : ∀ v ∈ L, v ∈ g.us := fun v hv => by rw [← hL] at hv; exact (List.mem_filter.1 hv).1
      have hll : L.length ≤ 20 := by
        rw [← hL]
        exact Nat.le_trans (List.length_filter_le _ _) hfew
      have hLs : byId L := by rw [← hL]; exact byId_filter _ HG.out.sorted
      obtain ⟨lva, lvc, rfl⟩ := own_slice ownL
      have lvB : ∀ b, (Value.slice lva L.length lvc).ownBlock = some b → w.heap.size ≤ b := fun b hb => (World.ownsRow.lt ownL b hb).1
      have hszr := kpr.size
      have HL := Lib.hid hL
      have HLM := Lib.hid hLm
      have HLS := Lib.hid hLs
      have GER := Lib.hid ger
      have KPR := Lib.hid kpr
      have HDIS := Lib.hid hdis
      have OWNL := Lib.hid ownL
      have LVB := Lib.hid lvB
      have hl0 : (0 : Int) ≤ (L.length : Int) := by omega
      clear ger hdis hfo kpr ownL hL hLm hLs lvB HX hlt
      go_wp2_with fail
      go_loopw [39] (fun a wx => ∃ k : Nat, a = .int .i64 k ∧ k ≤ L.length ∧ (GE wx B S { g with free := g.free ++ goneF g.us } born fv' (.slice ua g.us.length uc) bv ∧ Kp (fun k => k = S ∨ fv.ownBlock = some k) w wx ∧ wx.ownsRow w.heap.size 179 10 (.slice lva L.length lvc) L.length (cellsAll (doneU (idleF L) L k)))) (fun a _ => (L.length - intOf a).toNat)
      case atStart =>
        refine ⟨0, rfl, by omega, GER.out, KPR.out, ?_⟩
        rw [done_zero]
        exact OWNL.out
      case round =>
        obtain ⟨k, rfl, hk, hY⟩ := hrel
        have HY := Lib.hid hY
        clear hY
        by_cases hlt : k < L.length
        · obtain ⟨u, hu⟩ : ∃ u, L.getD k zeroU = u := ⟨_, rfl⟩
          have hum : u ∈ L := by rw [← hu, getD_lt hlt]; exact List.getElem_mem hlt
          obtain ⟨DU, hDU⟩ : ∃ D, doneU (idleF L) L k = D := ⟨_, rfl⟩
          have hDl : DU.length = L.length := by rw [← hDU]; exact done_length _ _ _
          have hDk : DU.getD k zeroU = u := by rw [← hDU, done_at hlt, hu]
          have hDn : doneU (idleF L) L (k + 1) = DU.set k (idleF L u) := by rw [done_next hlt, hDU, hu]
          have hDi : idsOf DU = idsOf L := by rw [← hDU]; exact done_id (fun v _ => idle_id L v) k
          rw [hDU] at HY
          obtain ⟨geY, kpY, oY⟩ := HY.out
          obtain ⟨lg, rfl⟩ : ∃ lg, lva = some ⟨lg, 0, none⟩ := by
            rcases oY.2 with ⟨e1, e2⟩ | ⟨g2, c2, cur, e1, -⟩
            · omega
            · cases e1; exact ⟨_, rfl⟩
          have hlgw : w.heap.size ≤ lg := LVB.out lg rfl
          have hlgl : lg < wr.heap.size := (World.ownsRow.lt oY lg rfl).2
          have oY2 := oY
          rw [← hDl] at oY2
          obtain ⟨a', c', he', -, hrw, -⟩ := URow.of_own oY2
          cases he'
          have hqs : ∀ j, j < 10 → wr.cell? ⟨lg, k * 10 + j, none⟩ = (cellsE u)[j]? := fun j hj => by
            rw [World.ownsRow.cellAt oY (k * 10 + j) (by omega), cellsAll_get DU k j (by omega) hj, hDk]
          have q6 : wr.cell? ⟨lg, k * 10 + 6, none⟩ = some (.int .i64 u.does) := hqs 6 (by decide)
          have q9 : wr.cell? ⟨lg, k * 10 + 9, none⟩ = some (.int .i64 u.target) := hqs 9 (by decide)
          have hk0 : (0 : Int) ≤ (k : Int) := by omega
          have hkn : (k : Int) < (L.length : Int) := by omega
          have hst := HG.out.still u (HLM.out u hum)
          have hsd : sortedU DU := byId_iff.1 (byId_ids hDi HLS.out)
          obtain ⟨ix, hix⟩ : ∃ i, ixOf L u.target = i := ⟨_, rfl⟩
          have hix2 : ixOf DU u.target = ix := by rw [ix_ids hDi]; exact hix
          have HIX := Lib.hid hix
          have HIX2 := Lib.hid hix2
          have HST := Lib.hid hst
          have HSD := Lib.hid hsd
          have HRW := Lib.hid hrw
          have HDk := Lib.hid hDk
          have HDl := Lib.hid hDl
          have HDn := Lib.hid hDn
          have GEY := Lib.hid geY
          have KPY := Lib.hid kpY
          have OY := Lib.hid oY
          clear HY hu hum hDU hDl hDk hDn hDi geY kpY oY oY2 hrw hqs hst hsd hix hix2
          by_cases ht : 0 < u.target
          case neg =>
            have hid : idleF L u = u := by
              unfold idleF
              rw [if_neg (fun h => ht h.1)]
            have hset : DU.set k u = DU := by
              rw [← HDk.out, getD_lt (by rw [HDl.out]; exact hlt)]
              exact List.set_getElem_self _
            have HIDL := Lib.hid hid
            have HSET := Lib.hid hset
            clear hid hset
            go_wp2_with fail
            go_roundw
            case rel =>
              refine ⟨k + 1, by go_num, by omega, GEY.out, KPY.out, ?_⟩
              rw [HDn.out, HIDL.out, HSET.out]
              exact OY.out
            case measure => simp [intOf]; omega
          go_wp2_with fail
          refine (at_any (some ⟨lg, 0, none⟩) L.length lvc DU u.target HDl.out (by omega) HSD.out _ HRW.out).mono ?_
          rintro e w5 ⟨rfl, b5⟩
          rw [HIX2.out]
          have ge5 := GEY.out.call b5
          have kp5 := KPY.out.then_ b5
          have o5 := own_kp OY.out (kp_of b5 (fun _ => False)) (fun _ _ x => x)
          have r6 : w5.cell? ⟨lg, k * 10 + 6, none⟩ = some (.int .i64 u.does) := (b5.cell (p := ⟨lg, _, none⟩) hlgl).trans q6
          have r9 : w5.cell? ⟨lg, k * 10 + 9, none⟩ = some (.int .i64 u.target) := (b5.cell (p := ⟨lg, _, none⟩) hlgl).trans q9
          have f6 : w5.frozen? ⟨lg, k * 10 + 6, none⟩ = false := World.ownsRow.frozenAt o5 _
          have f9 : w5.frozen? ⟨lg, k * 10 + 9, none⟩ = false := World.ownsRow.frozenAt o5 _
          have GE5 := Lib.hid ge5
          have KP5 := Lib.hid kp5
          have O5 := Lib.hid o5
          clear ge5 kp5 o5 q6 q9 b5
          by_cases hn : ix < 0
          · have hid : idleF L u = tellU u 0 0 0 0 := by
              unfold idleF
              rw [HIX.out, if_pos ⟨ht, hn⟩]
            have HIDL := Lib.hid hid
            clear hid
            go_wp2_with fail
            go_roundw
            case rel =>
              have hkp : Kp (fun c => c = lg) w5 ((w5.setCell ⟨lg, k * 10 + 6, none⟩ (.int .i64 0)).setCell ⟨lg, k * 10 + 9, none⟩ (.int .i64 0)) := ((Kp.refl (fun c => c = lg) w5).andset ⟨lg, k * 10 + 6, none⟩ _ rfl).andset ⟨lg, k * 10 + 9, none⟩ _ rfl
              have ge6 := GE5.out.kp hkp (by omega) (fun c hc e => HDIS.out c hc (by rw [e]; rfl)) (fun c hc e => by have := HEVL.out c hc; omega) (fun c hc e => by have := HBVL.out c hc; omega)
              have kp6 := KP5.out.trans hkp (fun c hc e => absurd hc (by omega))
              have hks : ∀ x : U, (DU.set k x).getD k zeroU = x := fun x => by rw [getD_lt (by rw [List.length_set, HDl.out]; exact hlt)]; simp
              have p1 := own_poke O5.out HDl.out hlt (j := 6) (by decide) (v := .int .i64 0) (u' := { u with does := 0 }) (by rw [HDk.out]; rfl)
              have hgx := HST.out ht
              have p2 := own_poke p1 (by rw [List.length_set]; exact HDl.out) hlt (j := 9) (by decide) (v := .int .i64 0) (u' := tellU u 0 0 0 0) (by rw [hks]; unfold tellU cellsE; dsimp only; rw [hgx.1, hgx.2]; rfl)
              rw [List.set_set] at p2
              refine ⟨k + 1, by go_num, by omega, ge6, kp6, ?_⟩
              rw [HDn.out, HIDL.out]
              exact p2
            case measure => simp [intOf]; omega
          · have hid : idleF L u = u := by
              unfold idleF
              rw [HIX.out, if_neg (fun h => hn h.2)]
            have hset : DU.set k u = DU := by
              rw [← HDk.out, getD_lt (by rw [HDl.out]; exact hlt)]
              exact List.set_getElem_self _
            have HIDL := Lib.hid hid
            have HSET := Lib.hid hset
            clear hid hset
            go_wp2_with fail
            go_roundw
            case rel =>
              refine ⟨k + 1, by go_num, by omega, GE5.out, KP5.out, ?_⟩
              rw [HDn.out, HIDL.out, HSET.out]
              exact O5.out
            case measure => simp [intOf]; omega
        · obtain rfl : k = L.length := by omega
          have hfin := HY.out
          rw [done_all] at hfin
          obtain ⟨geY, kpY, oY⟩ := hfin
          obtain ⟨lS, cS, fS⟩ := id geY.blk
          have GEY := Lib.hid geY
          have KPY := Lib.hid kpY
          have OY := Lib.hid oY
          clear geY kpY oY
          go_wp2_with fail
          go_end0
          have hlm : (L.map (idleF L)).length = L.length := List.length_map _
          have hput := GEY.out.putU (lv := .slice lva L.length lvc) (us := L.map (idleF L)) (by rw [hlm]; exact own_base OY.out hB) (fun c hc => by have := LVB.out c hc; omega) (fun c hc e => HDIS.out c hc e) (fun c hc e => by have := LVB.out c hc; have := HBVL.out c e; omega)
          refine ⟨rfl, (KPY.out.andset ⟨S, 5, none⟩ _ (Or.inl rfl)).below (fun c hc => ?_) hB, fv', .slice lva L.length lvc, bv, ?_⟩
          · rcases hc with e | e
            · omega
            · exact HFVB.out c e
          · rw [HL.out]
            exact hput
end Go.Proofs.Ytlfljlhppigejaa
