/-
  The walk of the document's Elder: a game as a state. (Printed by gen_refelder.py.) The walks of the document's Goes and Aims. (Printed by gen_refgoes.py.)
-/
import Derived.Test.YtlfljlhppigejaaPackTell
import Derived.Test.YtlfljlhppigejaaPackPure
import Derived.Test.YtlfljlhppigejaaPlayAll
namespace Go.Proofs.Ytlfljlhppigejaa
open Go.RowKit
attribute [local go_sem] qOne qAt qUp

theorem cellsE_one (z : U) : ∀ q ∈ cellsE z, q.oneCell' = true := by
  have := cellsAll_one [z]
  unfold cellsAll at this
  simpa using this
theorem push_ent {w : World} {base : Nat} {v : Value} {n : Nat} {us : List U} (own : w.ownsRow base 179 10 v n (cellsAll us)) (hn : n ≤ 100000) (hb : base ≤ w.heap.size) (z : U) :
    ∃ g cap w', (Builtin.append_ #[88, 88] 88 #[v, .slice (some ⟨w.heap.size, 0, none⟩) 1 1]).run Try.prog (w.alloc (.cells #[.int .i64 z.id, .int .i64 z.owner, .int .i64 z.kind, .int .i64 z.x, .int .i64 z.y, .int .i64 z.hp, .int .i64 z.does, .int .i64 z.gx, .int .i64 z.gy, .int .i64 z.target] 179)) = .ok (.slice (some ⟨g, 0, none⟩) (n + 1) cap) w' ∧
      w'.ownsRow base 179 10 (.slice (some ⟨g, 0, none⟩) (n + 1) cap) (n + 1) (cellsAll (us ++ [z])) ∧ Kp (fun b => v.ownBlock = some b) w w' ∧ (v.ownBlock = some g ∨ w.heap.size ≤ g) := by
  obtain ⟨i1, hj0, hj1, hj2, hj3⟩ := info_parts infoEnt
  have hbz : Below w.heap.size w (w.alloc (.cells #[.int .i64 z.id, .int .i64 z.owner, .int .i64 z.kind, .int .i64 z.x, .int .i64 z.y, .int .i64 z.hp, .int .i64 z.does, .int .i64 z.gx, .int .i64 z.gy, .int .i64 z.target] 179)) := (Below.refl _ _).alloc (Nat.le_refl _) _
  have oB := own_kp own (kp_of hbz (fun _ => False)) (fun _ _ x => x)
  obtain ⟨g2, cap, w5, r5, own5, grow5, hat5, lt5⟩ := run_append_lies (P := Try.prog) (w.alloc (.cells #[.int .i64 z.id, .int .i64 z.owner, .int .i64 z.kind, .int .i64 z.x, .int .i64 z.y, .int .i64 z.hp, .int .i64 z.does, .int .i64 z.gx, .int .i64 z.gy, .int .i64 z.target] 179)) 88 88 base 179 i1 _ 10 80 Try.underlying88 hj0 hj1 hj2 hj3 rfl (by omega) v n (cellsAll us) oB ⟨w.heap.size, 0, none⟩ 1 1 (cellsE z) rfl
    (World.news_of_block (cs := #[.int .i64 z.id, .int .i64 z.owner, .int .i64 z.kind, .int .i64 z.x, .int .i64 z.y, .int .i64 z.hp, .int .i64 z.does, .int .i64 z.gx, .int .i64 z.gy, .int .i64 z.target]) (t := 179) (fr := (0, 0)) (heap_alloc_new w _)) (cellsE_one z) (by omega) (by unfold maxLen; omega) (by omega) (Nat.le_trans hb hbz.size) (w.heap.size + 1) (by simp)
  refine ⟨g2, cap, w5, r5, ?_, ((kp_of hbz _).trans (Kp.grown grow5) (fun k _ hk => hk.symm)), ?_⟩
  · have e : cellsAll (us ++ [z]) = cellsAll us ++ cellsE z := by rw [cellsAll_append]; unfold cellsAll; simp
    rw [e]
    exact own5
  · rcases hat5 with h | h
    · exact Or.inl h
    · exact Or.inr (by omega)

set_option maxHeartbeats 6400000 in
set_option maxRecDepth 100000 in
theorem refelder_any (B S : Nat) (g : G) (born : List Int) (fa : Option Addr) (fn fc : Nat) (uv bv : Value) (w : World) (h : GR w B S g born (.slice fa fn fc) uv bv) (hfew : g.us.length ≤ 1000) :
    Calls Try.prog 121 #[.pointer (some ⟨S, 0, none⟩)] w fun e w' => (∃ a c, e = .returned (.agg #[.int .i64 g.tick, .int .i64 g.g0, .int .i64 g.g1, .int .i64 g.next, .slice fa fn fc, .slice a g.us.length c]) ∧ w'.ownsRow w.heap.size 179 10 (.slice a g.us.length c) g.us.length (cellsAll g.us)) ∧ Below w.heap.size w w' := by
  obtain ⟨ua, cu, rfl, hml, -, -⟩ := URow.of_ownN h.us
  obtain ⟨m, hm⟩ : ∃ m, g.us.length = m := ⟨_, rfl⟩
  rw [hm] at h hfew hml
  have hm0 : (0 : Int) ≤ (m : Int) := by omega
  have hR := h.reads hm hfew
  obtain ⟨lS, cS, -⟩ := id h.blk
  obtain ⟨V, hV⟩ : ∃ V, w.alloc (.cells #[.int .i64 0, .int .i64 0, .int .i64 0, .int .i64 0, .slice none 0 0, .slice none 0 0] 90) = V := ⟨_, rfl⟩
  have hbV : Below w.heap.size w V := by rw [← hV]; exact (Below.refl _ _).alloc (Nat.le_refl _) _
  have kV : Blk V w.heap.size #[.int .i64 0, .int .i64 0, .int .i64 0, .int .i64 0, .slice none 0 0, .slice none 0 0] := by rw [← hV]; exact Blk.new w _ _
  have cc : ∀ i, V.cell? ⟨S, i, none⟩ = (gameC g (.slice fa fn fc) (.slice ua m cu) bv)[i]? := fun i => (hbV.cell (p := ⟨S, i, none⟩) lS).trans (cS i)
  have c1 : V.cell? ⟨S, 1, none⟩ = some (.int .i64 g.tick) := cc 1
  have c2 : V.cell? ⟨S, 2, none⟩ = some (.int .i64 g.g0) := cc 2
  have c3 : V.cell? ⟨S, 3, none⟩ = some (.int .i64 g.g1) := cc 3
  have c4 : V.cell? ⟨S, 4, none⟩ = some (.int .i64 g.next) := cc 4
  have c5 : V.cell? ⟨S, 5, none⟩ = some (.slice fa fn fc) := cc 5
  have lSV : S < V.heap.size := Nat.lt_of_lt_of_le lS hbV.size
  have HBV := Lib.hid hbV
  have HKV := Lib.hid kV
  have HR := Lib.hid hR
  have HM := Lib.hid hm
  clear h hm hbV kV hR cS cc
  go_enter Try.func121, Try.ntmps121
  go_upto_region 1 with fail
  try rw [hV]
  clear hV
  haveI := Cw.ne V
  have hcw := fun (x : Cw V) => x.cell
  refine region_loose 17 (by kernel_rfl) (by kernel_rfl) ?_
  repeat (refine wpQB_step (fun K hK => ?_); go_simp; (refine hK _ ?_; clear hK K))
  refine wpQB_nil ?_
  refine tail_var (T := 90) (d := 3) (r := 22) (c := #[.int .i64 g.tick, .int .i64 g.g0, .int .i64 g.g1, .int .i64 g.next, .slice fa fn fc, .slice none 0 0]) #[.int .i64 0, .int .i64 0, .int .i64 0, .int .i64 0, .slice none 0 0, .slice none 0 0] rfl rfl rfl rfl (fun _ => rfl) (fun w => by simp [go_sem]) (fun _ => rfl) (by simp) rfl (by kernel_rfl) (by simp [Value.oneCell']) (fun p => ?_)
  refine tail_nil ?_
  rintro W ⟨hb, hp, hk⟩
  obtain ⟨P1, hP1⟩ : ∃ n, p = n := ⟨_, rfl⟩
  rw [hP1] at hk hp
  try rw [hP1]
  have hsV := HBV.out.size
  have hP0 : w.heap.size < P1 := by have := HKV.out.lt; omega
  have HB := Lib.hid hb
  have HK := Lib.hid hk
  have HK0 := Lib.hid (HKV.out.call hb)
  have hsW := hb.size
  clear hcw hb hk hP1 c1 c2 c3 c4 c5 lSV
  go_wp2_with fail
  go_loopw [4, 5] (fun iv _ wr => ∃ k : Nat, iv = .int .i64 k ∧ k ≤ m ∧ (∃ ea ec, Blk wr P1 #[.int .i64 g.tick, .int .i64 g.g0, .int .i64 g.g1, .int .i64 g.next, .slice fa fn fc, .slice ea k ec] ∧ wr.ownsRow W.heap.size 179 10 (.slice ea k ec) k (cellsAll (g.us.take k)) ∧ Kp (fun c => c = P1) W wr)) (fun iv _ _ => (m - intOf iv).toNat)
  case atStart => exact ⟨0, rfl, by omega, none, 0, HK.out, World.ownsRow_nil _ _ _ _, Kp.refl _ _⟩
  case round =>
    obtain ⟨k, rfl, hk, ea, ec, kb, own, kr⟩ := hrel
    have hki : (0 : Int) ≤ (k : Int) := by omega
    have hszr := kr.size
    have hWr : Below w.heap.size w wr := (HBV.out.trans (HB.out.mono hsV)).trans (kr.below (fun c hc => by have h2 : c = P1 := hc; omega) (by omega))
    have hRr := HR.out.call hWr
    have c6 := hRr.c6
    have lSr := hRr.lt
    have KB := Lib.hid kb
    have OWN := Lib.hid own
    have KR := Lib.hid kr
    have HRR := Lib.hid hRr
    have HWR := Lib.hid hWr
    have LVB := Lib.hid (fun b hb => (World.ownsRow.lt own b hb).1 : ∀ b, (Value.slice ea k ec).ownBlock = some b → W.heap.size ≤ b)
    have hP1W : P1 < W.heap.size := HK.out.lt
    clear kb own kr hRr hWr
    by_cases hlt : k < m
    · have hkl : (k : Int) < (m : Int) := by omega
      have hlu : k < g.us.length := by have := HM.out; omega
      obtain ⟨u, hu⟩ : ∃ u, g.us.getD k zeroU = u := ⟨_, rfl⟩
      obtain ⟨b, o, rfl, hbB, q0, q1, q2, q3, q4, q5, q6, q7, q8, q9, q10⟩ := HRR.out.row.getN k hlu u hu
      have HU := Lib.hid hu
      have HLU := Lib.hid hlu
      clear hu hlu
      go_upto_region 6 with fail
      refine gen_world (fun Z => Below wr.heap.size wr Z ∧ Blk Z wr.heap.size #[.int .i64 u.id, .int .i64 u.owner, .int .i64 u.kind, .int .i64 u.x, .int .i64 u.y, .int .i64 u.hp, .int .i64 u.does, .int .i64 u.gx, .int .i64 u.gy, .int .i64 u.target, .int .i64 u.since]) ⟨(Below.refl _ _).alloc (Nat.le_refl _) _, Blk.new wr _ _⟩ ?_
      rintro w1 ⟨hb1, kU⟩
      obtain ⟨pu, hpu⟩ : ∃ n, wr.heap.size = n := ⟨_, rfl⟩
      rw [hpu] at kU
      try rw [hpu]
      have kb1 := KB.out.call hb1
      have own1 := own_kp OWN.out (kp_of hb1 (fun _ => False)) (fun _ _ x => x)
      obtain ⟨lU, cU, -⟩ := id kU
      obtain ⟨lB, cB, -⟩ := id kb1
      have cB5 : w1.cell? ⟨P1, 5, none⟩ = some (.slice ea k ec) := cB 5
      obtain ⟨g5, cap5, w5, r5, own5, k5, hat5⟩ := push_ent own1 (by omega) (by have := hb1.size; omega) u
      have hkb5 : Blk w5 P1 _ := kb1.kp k5 (fun e => by have := LVB.out P1 e; omega)
      obtain ⟨lB5, cB5', fB5⟩ := id hkb5
      have cB55 : w5.cell? ⟨P1, 5, none⟩ = some (.slice ea k ec) := cB5' 5
      have hst := hkb5.store (i := 5) (.slice (some ⟨g5, 0, none⟩) (k + 1) cap5) (by simp)
      have HST := Lib.hid hst
      have OWN5 := Lib.hid own5
      have K5 := Lib.hid k5
      have HB1 := Lib.hid hb1
      have hs1 := hb1.size
      clear hb1 kU hpu kb1 own1 own5 k5 hat5 hkb5 cB cB5' hst q0 q1 q2 q3 q4 q5 q6 q7 q8 q9 q10 c6
      go_wp2_with (at_builtin; refine list_run_append (by rfl) _ _ _ _ (by rfl) (by rfl) (by rfl) (by rfl) r5 ?_)
      go_roundw
      case rel =>
        have kk : Kp (fun c => c = P1) W w5 := ((KR.out.then_ HB1.out).trans K5.out (fun c hc e => by have := LVB.out c e; omega))
        refine ⟨k + 1, by go_num, by omega, some ⟨g5, 0, none⟩, cap5, by simpa using HST.out, ?_, kk.andset _ _ rfl⟩
        rw [take_at HLU.out, HU.out]
        refine own_kp OWN5.out (Kp.setCell _ ⟨P1, 5, none⟩ _) (fun c hc e => ?_)
        have h1 := (World.ownsRow.lt OWN5.out c hc).1
        have h2 : c = P1 := e
        omega
      case measure => simp [intOf]; omega
    · obtain rfl : k = m := by omega
      have hk0 := HK0.out.kp KR.out (by omega)
      obtain ⟨lB, cB, -⟩ := id KB.out
      have own := OWN.out
      have hth : g.us.take k = g.us := by rw [← HM.out, List.take_length]
      rw [hth] at own
      have OWNE := Lib.hid own
      have HKE := Lib.hid hk0
      obtain ⟨l0, -, f0⟩ := id hk0
      have c00 : wr.cell? ⟨w.heap.size, 0, none⟩ = some (.int .i64 0) := hk0.cell 0
      have c01 : wr.cell? ⟨w.heap.size, 1, none⟩ = some (.int .i64 0) := hk0.cell 1
      have c02 : wr.cell? ⟨w.heap.size, 2, none⟩ = some (.int .i64 0) := hk0.cell 2
      have c03 : wr.cell? ⟨w.heap.size, 3, none⟩ = some (.int .i64 0) := hk0.cell 3
      have c04 : wr.cell? ⟨w.heap.size, 4, none⟩ = some (.slice none 0 0) := hk0.cell 4
      have c05 : wr.cell? ⟨w.heap.size, 5, none⟩ = some (.slice none 0 0) := hk0.cell 5
      clear hk0 hth own
      go_wp2_with fail
      refine bodyPost_ret (v := .agg #[.int .i64 g.tick, .int .i64 g.g0, .int .i64 g.g1, .int .i64 g.next, .slice fa fn fc, .slice ea k ec]) (ret_cell (d := _) Try.results121 rfl (HKE.out.store6 rfl (.int .i64 g.tick) (.int .i64 g.g0) (.int .i64 g.g1) (.int .i64 g.next) (.slice fa fn fc) (.slice ea k ec)) Try.underlying90 rfl infoElder) rfl ?_
      have XK := (Kp.refl (fun b => b = w.heap.size) wr).six (.int .i64 g.tick) (.int .i64 g.g0) (.int .i64 g.g1) (.int .i64 g.next) (.slice fa fn fc) (.slice ea k ec)
      refine ⟨⟨ea, ec, by rw [HM.out], ?_⟩, Below.six HWR.out (Nat.le_refl _) _ _ _ _ _ _⟩
      rw [HM.out]
      refine own_base (own_kp OWNE.out XK (fun c hc e => ?_)) (by omega)
      have h1 := LVB.out c hc
      have h2 : c = w.heap.size := e
      omega
end Go.Proofs.Ytlfljlhppigejaa
namespace Go.Proofs.Ytlfljlhppigejaa
open Go.RowKit
attribute [local go_sem] qOne qAt qUp

set_option maxHeartbeats 3200000 in
set_option maxRecDepth 100000 in
theorem refgoes_any (B S : Nat) (g : G) (born : List Int) (fv uv bv : Value) (i : Nat) (u : U) (x y : Int) (w : World) (h : GR w B S g born fv uv bv) (hi : g.us[i]? = some u) :
    Calls Try.prog 101 #[.pointer (some ⟨S, 0, none⟩), .int .i64 i, .int .i64 x, .int .i64 y] w (TurnEnd w B S { g with us := goesF g.new g.us i x y } born fv uv bv) := by
  obtain ⟨hlt, he⟩ := List.getElem?_eq_some_iff.1 hi
  have hu : g.us.getD i zeroU = u := by rw [getD_lt hlt, he]
  obtain ⟨b, cu, rfl, hbB, hml⟩ := own_unit h.us hlt
  obtain ⟨a', c', ea, -, hrow, -⟩ := URow.of_ownN h.us
  cases ea
  obtain ⟨b', o', ea, -, q0, q1, q2, q3, q4, q5, q6, q7, q8, q9, q10⟩ := hrow.getN i hlt u hu
  cases ea
  simp only [Nat.zero_add] at q0 q1 q2 q3 q4 q5 q6 q7 q8 q9 q10
  obtain ⟨m, hm⟩ : ∃ m, g.us.length = m := ⟨_, rfl⟩
  rw [hm] at h hlt hml ⊢
  have hbS : b ≠ S := h.su b rfl
  have hin : (i : Int) < (m : Int) := by omega
  have hi0 : (0 : Int) ≤ (i : Int) := by omega
  obtain ⟨lS, cS, -⟩ := id h.blk
  have c0 : w.cell? ⟨S, 0, none⟩ = some (.bool g.new) := cS 0
  have c6 : w.cell? ⟨S, 6, none⟩ = some (.slice (some ⟨b, 0, none⟩) m cu) := cS 6
  have HH := Lib.hid h
  have HI := Lib.hid (⟨hi, hu⟩ : g.us[i]? = some u ∧ g.us.getD i zeroU = u)
  clear hrow h hi he hu cS hm
  go_enter Try.func101, Try.ntmps101
  go_wp2_with fail
  haveI := Cw.ne w
  have hcw := fun (x : Cw w) => x.cell
  refine region_loose 16 (by kernel_rfl) (by kernel_rfl) ?_
  repeat (refine wpQB_step (fun K hK => ?_); go_simp; first | (refine hK _ ?_; clear hK K) | (apply Exists.intro; refine ⟨fun x => ?_, hK _ ?_⟩; (first | (go_at_call 20; refine (refRule_any g.new u.kind _).mono ?_; rintro e w1 ⟨rfl, b1⟩; exact ⟨rfl, b1⟩)); clear hK K))
  refine wpQB_nil ?_
  refine tail_var (T := 36) (d := 8) (r := 25) (c := #[.int .i64 (ruleOf g.new u.kind).cost, .int .i64 (ruleOf g.new u.kind).hp, .int .i64 (ruleOf g.new u.kind).speed, .int .i64 (ruleOf g.new u.kind).harm, .int .i64 (ruleOf g.new u.kind).range, .int .i64 (ruleOf g.new u.kind).load]) #[.int .i64 0, .int .i64 0, .int .i64 0, .int .i64 0, .int .i64 0, .int .i64 0] rfl rfl rfl rfl (fun _ => rfl) (fun w => by simp [go_sem]) (fun _ => rfl) (by simp) rfl (by kernel_rfl) (by simp [Value.oneCell']) (fun p => ?_)
  refine tail_value (.bool (isRule g.new u.kind)) rfl (fun w => by simp [go_sem]) ?_
  refine tail_nil ?_
  rintro w1 ⟨hb, hp, hk⟩
  obtain ⟨r, hr⟩ : ∃ r, ruleOf g.new u.kind = r := ⟨_, rfl⟩
  have HR := Lib.hid hr
  rw [hr] at hk
  try rw [hr]
  obtain ⟨lR, cR, -⟩ := id hk
  have HB := Lib.hid hb
  have HK := Lib.hid hk
  clear hcw hb hk hp hr q0 q1 q2 q3 q4 q5 q6 q7 q8 q9 q10 c0 c6
  go_wp2_with fail
  refine (refOn x y _).mono ?_
  rintro e w2 ⟨rfl, rfl⟩
  obtain ⟨ON, hON⟩ : ∃ v, onB x y = v := ⟨_, rfl⟩
  have HON := Lib.hid hON
  rw [hON]
  clear hON
  have HNO : Hid (¬ (onB x y = true ∧ 0 < r.speed) → TurnEnd w B S { g with us := goesF g.new g.us i x y } born fv (.slice (some ⟨b, 0, none⟩) m cu) bv (.returned (.tuple #[])) w1) := Lib.hid (fun hno => by
    unfold goesF
    rw [HI.out.2, HR.out, if_neg hno]
    exact ⟨rfl, HH.out.call HB.out, kp_of HB.out _⟩)
  cases ON
  case false =>
    go_wp2_with fail
    go_end0
    exact HNO.out (fun hc => by have h1 := hc.1; rw [HON.out] at h1; cases h1)
  by_cases hsp : 0 < r.speed
  case neg =>
    have d1 : decide (0 < r.speed) = false := decide_eq_false hsp
    have HS := Lib.hid hsp
    clear hsp
    go_wp2_with fail
    go_end0
    exact HNO.out (fun hc => by have h1 := HS.out; have h2 := hc.2; omega)
  have d1 : decide (0 < r.speed) = true := decide_eq_true hsp
  have HS := Lib.hid hsp
  clear hsp
  go_wp2_with fail
  refine (reftell_any B S g born fv _ bv i u 1 x y 0 _ (HH.out.call HB.out) HI.out.1).mono ?_
  rintro e w3 ⟨rfl, h3, k3⟩
  have H3 := Lib.hid h3
  have K3 := Lib.hid k3
  clear h3 k3
  go_wp2_with fail
  go_end0
  refine ⟨rfl, ?_, (kp_of HB.out _).trans K3.out (fun _ _ h => h)⟩
  unfold goesF
  rw [HI.out.2, HR.out, if_pos ⟨HON.out, HS.out⟩]
  exact H3.out

set_option maxHeartbeats 6400000 in
set_option maxRecDepth 100000 in
theorem refaims_any (B S : Nat) (g : G) (born : List Int) (fv uv bv : Value) (i : Nat) (u : U) (tg d : Int) (w : World) (h : GR w B S g born fv uv bv) (hi : g.us[i]? = some u) (hfew : g.us.length ≤ 1000) :
    Calls Try.prog 102 #[.pointer (some ⟨S, 0, none⟩), .int .i64 i, .int .i64 tg, .int .i64 d] w (TurnEnd w B S { g with us := aimsF g.new g.us i tg d } born fv uv bv) := by
  obtain ⟨hlt, he⟩ := List.getElem?_eq_some_iff.1 hi
  have hu : g.us.getD i zeroU = u := by rw [getD_lt hlt, he]
  obtain ⟨b, cu, rfl, hbB, hml⟩ := own_unit h.us hlt
  obtain ⟨a', c', ea, -, hrow, -⟩ := URow.of_ownN h.us
  cases ea
  obtain ⟨b', o', ea, -, q0, q1, q2, q3, q4, q5, q6, q7, q8, q9, q10⟩ := hrow.getN i hlt u hu
  cases ea
  simp only [Nat.zero_add] at q0 q1 q2 q3 q4 q5 q6 q7 q8 q9 q10
  obtain ⟨m, hm⟩ : ∃ m, g.us.length = m := ⟨_, rfl⟩
  rw [hm] at h hlt hml ⊢
  have hbS : b ≠ S := h.su b rfl
  have hin : (i : Int) < (m : Int) := by omega
  have hi0 : (0 : Int) ≤ (i : Int) := by omega
  have hR := h.reads hm (by omega)
  have WHO := hR.who tg ⟨w, Below.refl _ _⟩
  dsimp only at WHO
  obtain ⟨K, hK⟩ : ∃ K, ixOf g.us tg = K := ⟨_, rfl⟩
  have hrange := ixOf_range g.us tg
  rw [hK] at WHO hrange
  rw [hm] at hrange
  obtain ⟨hr1, hr2⟩ := hrange
  have c6 := hR.c6
  have lS := hR.lt
  have HR := Lib.hid hR
  have HH := Lib.hid h
  have HI := Lib.hid (⟨hi, hu⟩ : g.us[i]? = some u ∧ g.us.getD i zeroU = u)
  have HK := Lib.hid hK
  have WHO' := Lib.hid WHO
  have HM := Lib.hid hm
  have HROW := Lib.hid hrow
  clear hrow h hi he hu hR hK WHO hm
  have HNO : Hid (¬ (0 ≤ K ∧ 0 < d ∧ mayDo g.new u (g.us.getD K.toNat zeroU) = d) → ∀ w1, Below w.heap.size w w1 → TurnEnd w B S { g with us := aimsF g.new g.us i tg d } born fv (.slice (some ⟨b, 0, none⟩) m cu) bv (.returned (.tuple #[])) w1) := Lib.hid (fun hno w1 hb => by
    unfold aimsF
    rw [HI.out.2, HK.out, if_neg hno]
    exact ⟨rfl, HH.out.call hb, kp_of hb _⟩)
  go_enter Try.func102, Try.ntmps102
  go_wp2_with fail
  refine WHO'.out.mono ?_
  rintro e w2 ⟨rfl, rfl⟩
  by_cases hk : 0 ≤ K
  case neg =>
    have d1 : decide (0 ≤ K) = false := decide_eq_false hk
    have HN := Lib.hid hk
    clear hk
    go_upto_region 1 with fail
    haveI := Cw.ne w
    have hcw := fun (x : Cw w) => x.cell
    refine region_cw (by kernel_rfl) (by kernel_rfl) ?_
    repeat (go_big_quiet_step (fail))
    refine wpQuiet_nil ?_
    intro Z hZ
    have HZ := Lib.hid hZ
    clear hZ hcw
    go_wp2_with fail
    go_end0
    exact HNO.out (fun hc => by have h1 := HN.out; have h2 := hc.1; omega) _ HZ.out
  have d1 : decide (0 ≤ K) = true := decide_eq_true hk
  obtain ⟨k, rfl⟩ := Int.eq_ofNat_of_zero_le hk
  have HKP := Lib.hid hk
  clear hk
  by_cases hd : 0 < d
  case neg =>
    have d2 : decide (0 < d) = false := decide_eq_false hd
    have HN := Lib.hid hd
    clear hd
    go_upto_region 1 with fail
    haveI := Cw.ne w
    have hcw := fun (x : Cw w) => x.cell
    refine region_cw (by kernel_rfl) (by kernel_rfl) ?_
    repeat (go_big_quiet_step (fail))
    refine wpQuiet_nil ?_
    intro Z hZ
    have HZ := Lib.hid hZ
    clear hZ hcw
    go_wp2_with fail
    go_end0
    exact HNO.out (fun hc => by have h1 := HN.out; have h2 := hc.2.1; omega) _ HZ.out
  have d2 : decide (0 < d) = true := decide_eq_true hd
  have HD := Lib.hid hd
  clear hd
  obtain ⟨v, hv⟩ : ∃ v, g.us.getD k zeroU = v := ⟨_, rfl⟩
  obtain ⟨b', o', ea, -, t0, t1, t2, t3, t4, t5, t6, t7, t8, t9, t10⟩ := HROW.out.getN k (by have := HM.out; omega) v hv
  cases ea
  simp only [Nat.zero_add] at t0 t1 t2 t3 t4 t5 t6 t7 t8 t9 t10
  have HV := Lib.hid hv
  have MAY : Hid (∀ x : Cw w, Calls Try.prog 103 #[.pointer (some ⟨S, 0, none⟩), .agg #[.int .i64 u.id, .int .i64 u.owner, .int .i64 u.kind, .int .i64 u.x, .int .i64 u.y, .int .i64 u.hp, .int .i64 u.does, .int .i64 u.gx, .int .i64 u.gy, .int .i64 u.target, .int .i64 u.since], .agg #[.int .i64 v.id, .int .i64 v.owner, .int .i64 v.kind, .int .i64 v.x, .int .i64 v.y, .int .i64 v.hp, .int .i64 v.does, .int .i64 v.gx, .int .i64 v.gy, .int .i64 v.target, .int .i64 v.since]] x.w fun e w' => e = .returned (.int .i64 (mayDo g.new u v)) ∧ Below x.w.heap.size x.w w') := Lib.hid (fun x => refmay_any g.new S u v x.w (HR.out.call x.below).lt (HR.out.call x.below).c0)
  obtain ⟨M, hM⟩ : ∃ M, mayDo g.new u v = M := ⟨_, rfl⟩
  rw [hM] at MAY
  have HMM := Lib.hid hM
  clear hv hM
  go_upto_region 1 with fail
  haveI := Cw.ne w
  have hcw := fun (x : Cw w) => x.cell
  refine region_cw (by kernel_rfl) (by kernel_rfl) ?_
  repeat (go_big_quiet_step ((go_at_call 103; refine Calls.cw (MAY.out _))))
  refine wpQuiet_nil ?_
  intro Z hZ
  have HZ := Lib.hid hZ
  clear hZ hcw q0 q1 q2 q3 q4 q5 q6 q7 q8 q9 q10 t0 t1 t2 t3 t4 t5 t6 t7 t8 t9 t10 c6
  by_cases hmd : M = d
  case neg =>
    have d3 : (M == d) = false := by simp [hmd]
    have HN := Lib.hid hmd
    clear hmd
    go_wp2_with fail
    go_end0
    refine HNO.out (fun hc => ?_) _ HZ.out
    have h1 := hc.2.2
    rw [Int.toNat_natCast, HV.out, HMM.out] at h1
    exact HN.out h1
  have d3 : (M == d) = true := by simp [hmd]
  have HMD := Lib.hid hmd
  clear hmd
  go_wp2_with fail
  refine (reftell_any B S g born fv _ bv i u d 0 0 tg _ (HH.out.call HZ.out) HI.out.1).mono ?_
  rintro e w3 ⟨rfl, h3, k3⟩
  have H3 := Lib.hid h3
  have K3 := Lib.hid k3
  clear h3 k3
  go_wp2_with fail
  go_end0
  refine ⟨rfl, ?_, (kp_of HZ.out _).trans K3.out (fun _ _ h => h)⟩
  unfold aimsF
  rw [HI.out.2, HK.out, Int.toNat_natCast, HV.out, HMM.out, if_pos ⟨HKP.out, HD.out, HMD.out⟩]
  exact H3.out
end Go.Proofs.Ytlfljlhppigejaa
