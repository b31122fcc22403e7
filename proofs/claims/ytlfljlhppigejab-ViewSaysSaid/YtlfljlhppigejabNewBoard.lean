/-
  The newer game's board in memory, and the walks of index and place.
-/
import Derived.Test.YtlfljlhppigejabPackSmall
import Derived.Test.YtlfljlhppigejabElderMove
import Derived.Test.YtlfljlhppigejabNewFuncs
import Derived.Test.YtlfljlhppigejabPackMix
import Derived.Lib.SliceRun
namespace Go.Proofs.Ytlfljlhppigejab
open Go.RowKit Go.ChangeMaps

section
variable {P : Program} {k t e : TypeId} {ι : Type} {emb : ι → Value} {ok : ι → Prop} {w : World} {b n sz : Nat} {f : ι → Option Value}
/-- clear(m). -/
theorem MapOf.clear (h : MapOf P k emb ok w b n sz f) (ht : P.underlying t = some (.map k e)) (ty : TypeId) :
    ∃ w', (Builtin.clear_ #[t] ty #[.map (some b)]).run P w = .ok (.tuple #[]) w' ∧ MapOf P k emb ok w' b 0 0 (fun _ => none) ∧ w.mapTurned w' b := by
  obtain ⟨D, ⟨es, clock, hb, F, hsz, hD⟩, h2, h3⟩ := id h
  have hw : (setBlock w b (.map #[] clock)).heap[b]? = some (.map #[] clock) := by
    have := h.lt
    simp [setBlock, this]
  refine ⟨setBlock w b (.map #[] clock), ?_, ⟨.map [], ⟨#[], clock, hw, ⟨by simp, MapKept.stamped_empty clock, by simp⟩, Nat.le_refl _, rfl⟩, rfl, fun _ _ _ _ => ⟨rfl, fun _ => rfl⟩⟩, ⟨es, clock, #[], clock, hb, rfl⟩⟩
  simp [Builtin.clear_, run_underlying ht, MapKept.run_getObj_map hb, MapKept.run_setObj_map _ hb, Result.andThen, setBlock]
end

/-- The cells of a board: a state's five, the map of units, 144 places, the first fresh number. -/
def boardV (tick g0 g1 next : Int) (uv : Value) (M : Nat) (grid : Nat → Int) (fresh : Int) : Nat → Value
  | 0 => .int .i64 tick
  | 1 => .int .i64 g0
  | 2 => .int .i64 g1
  | 3 => .int .i64 next
  | 4 => uv
  | 5 => .map (some M)
  | n + 6 => if n < 144 then .int .i64 (grid n) else .int .i64 fresh
theorem boardV_grid (tick g0 g1 next : Int) (uv : Value) (M : Nat) (grid : Nat → Int) (fresh : Int) (n : Nat) (h : n < 144) : boardV tick g0 g1 next uv M grid fresh (n + 6) = .int .i64 (grid n) := by
  show (if n < 144 then Value.int .i64 (grid n) else .int .i64 fresh) = _
  rw [if_pos h]
theorem boardV_else {tick g0 g1 next : Int} {uv : Value} {M : Nat} {grid grid' : Nat → Int} {fresh : Int} (i : Nat) (h : i < 6 ∨ 150 ≤ i) : boardV tick g0 g1 next uv M grid fresh i = boardV tick g0 g1 next uv M grid' fresh i := by
  by_cases h6 : i < 6
  · match i, h6 with
    | 0, _ => rfl
    | 1, _ => rfl
    | 2, _ => rfl
    | 3, _ => rfl
    | 4, _ => rfl
    | 5, _ => rfl
  · obtain ⟨n, rfl⟩ : ∃ n, i = n + 6 := ⟨i - 6, by omega⟩
    show (if n < 144 then _ else _) = (if n < 144 then _ else _)
    rw [if_neg (by omega), if_neg (by omega)]
/-- Block S is a board. -/
def Bd (w : World) (S : Nat) (f : Nat → Value) : Prop := S < w.heap.size ∧ (∀ i, i < 151 → w.cell? ⟨S, i, none⟩ = some (f i)) ∧ ∀ i, w.frozen? ⟨S, i, none⟩ = false
theorem Bd.lt {w : World} {S : Nat} {f : Nat → Value} (h : Bd w S f) : S < w.heap.size := h.1
theorem Bd.kp {X : Nat → Prop} {w w' : World} {S : Nat} {f : Nat → Value} (h : Bd w S f) (k : Kp X w w') (hx : ¬ X S) : Bd w' S f := by
  have hb := k.block S h.1 hx
  exact ⟨Nat.lt_of_lt_of_le h.1 k.size, fun i hi => (World.cell?_of_block (w := w) hb).trans (h.2.1 i hi), fun i => (World.frozen?_of_block (w := w) hb).trans (h.2.2 i)⟩
theorem Bd.call {w w' : World} {S : Nat} {f : Nat → Value} (h : Bd w S f) (k : Below w.heap.size w w') : Bd w' S f := h.kp (kp_of k (fun _ => False)) (fun x => x)
theorem Bd.fn {w : World} {S : Nat} {f f' : Nat → Value} (h : Bd w S f) (hf : ∀ i, i < 151 → f i = f' i) : Bd w S f' := ⟨h.1, fun i hi => by rw [← hf i hi]; exact h.2.1 i hi, h.2.2⟩
theorem Bd.store {w : World} {S i : Nat} {f : Nat → Value} (h : Bd w S f) (v : Value) (hi : i < 151) : Bd (w.setCell ⟨S, i, none⟩ v) S (fun j => if j = i then v else f j) := by
  refine ⟨by simpa using h.1, fun j hj => ?_, fun j => free_set.trans (h.2.2 j)⟩
  by_cases e : i = j
  · subst e
    show _ = some (if i = i then v else f i)
    rw [if_pos rfl]
    exact cell_same (h.2.1 i hi)
  · show _ = some (if j = i then v else f j)
    rw [cell_off e, if_neg (fun h => e h.symm)]
    exact h.2.1 j hj
/-- A row of cells in a board is written. -/
theorem Bd.cells {w : World} {S o : Nat} {f : Nat → Value} (h : Bd w S f) (l : List Value) (ho : o + l.length ≤ 151) : Bd (w.setCells S o l) S (fun j => if o ≤ j ∧ j < o + l.length then l.getD (j - o) undef else f j) := by
  induction l generalizing w o f with
  | nil => exact h.fn (fun i hi => by rw [if_neg]; intro h2; simp at h2; omega)
  | cons x l ih =>
    have hl : o + (l.length + 1) ≤ 151 := by simpa using ho
    have h1 := ih (h.store x (i := o) (by omega)) (o := o + 1) (by omega)
    refine Bd.fn (w := (w.setCell ⟨S, o, none⟩ x).setCells S (o + 1) l) h1 (fun i hi => ?_)
    rw [List.length_cons]
    by_cases h2 : o + 1 ≤ i ∧ i < o + 1 + l.length
    · rw [if_pos h2, if_pos (by omega)]
      obtain ⟨d, rfl⟩ : ∃ d, i = o + 1 + d := ⟨i - (o + 1), by omega⟩
      rw [show o + 1 + d - (o + 1) = d by omega, show o + 1 + d - o = d + 1 by omega]
      rfl
    · rw [if_neg h2]
      by_cases h3 : i = o
      · subst h3
        rw [if_pos rfl, if_pos (by omega)]
        simp
      · rw [if_neg h3, if_neg (by omega)]

theorem replicate_getD {n d : Nat} {v z : Value} (h : d < n) : (List.replicate n v).getD d z = v := by simp [List.getD, h]
/-- What stands where, behind index. -/
def gridStep (f : Nat → Int) (u : U) : Nat → Int := fun n => if n = (u.y * 12 + u.x).toNat then u.id else f n
def gridF (us : List U) : Nat → Int := us.foldl gridStep (fun _ => 0)
/-- A pointer to the i-th of a row of units. -/
def uPtr (a : Option Addr) (i : Nat) : Value := .pointer (a.map fun x => ⟨x.block, x.off + i * 11, none⟩)
def whoV (a : Option Addr) (us : List U) (id : Int) : Option Value := (whoIx us id).map (uPtr a)
theorem who_succ {us : List U} (hs : byId us) (a : Option Addr) (k : Nat) (h : k < us.length) (u : U) (hu : us.getD k zeroU = u) (id : Int) : whoV a (us.take (k + 1)) id = if id = u.id then some (uPtr a k) else whoV a (us.take k) id := by
  have hlt : ∀ v ∈ us.take k, v.id < u.id := by
    intro v hv
    obtain ⟨m, hm, rfl⟩ := List.mem_iff_getElem.1 hv
    rw [List.length_take] at hm
    have h5 := byId_iff.1 hs m k (by omega) h
    rw [hu, getD_lt (by omega)] at h5
    rw [List.getElem_take]
    exact h5
  have e : us.take (k + 1) = us.take k ++ [u] := by
    rw [List.take_succ_eq_append_getElem h, ← hu, getD_lt h]
  have hl : (us.take k).length = k := by rw [List.length_take]; omega
  unfold whoV whoIx
  rw [e, List.findIdx?_append]
  by_cases hid : id = u.id
  · rw [if_pos hid]
    have hn : (us.take k).findIdx? (fun v => v.id == id) = none := by
      rw [List.findIdx?_eq_none_iff]
      intro v hv
      have := hlt v hv
      simp
      omega
    rw [hn]
    simp [hid, hl]
  · rw [if_neg hid]
    have : ([u].findIdx? fun v => v.id == id) = none := by
      rw [List.findIdx?_eq_none_iff]
      intro v hv
      have : v = u := by simpa using hv
      rw [this]
      simp
      exact fun h => hid h.symm
    rw [this]
    simp
theorem grid_succ (us : List U) (k : Nat) (h : k < us.length) (u : U) (hu : us.getD k zeroU = u) : gridF (us.take (k + 1)) = gridStep (gridF (us.take k)) u := by
  unfold gridF
  rw [List.take_succ_eq_append_getElem h, List.foldl_append]
  rw [getD_lt h] at hu
  rw [hu]
  rfl

set_option maxHeartbeats 6400000 in
set_option maxRecDepth 100000 in
theorem index_any (g : G) (S M n1 s1 : Nat) (f0 : Int → Option Value) (ua : Option Addr) (cu : Nat) (grid : Nat → Int) (fresh : Int) (w : World) (hg : byId g.us) (h20 : g.us.length ≤ 20) (hok : ∀ u ∈ g.us, 0 ≤ u.x ∧ u.x < 12 ∧ 0 ≤ u.y ∧ u.y < 12 ∧ (Lit.int .i64 u.id).wf = true)
    (hB : Bd w S (boardV g.tick g.g0 g.g1 g.next (.slice ua g.us.length cu) M grid fresh)) (hM : IM w M n1 s1 f0) (hSM : S ≠ M) (hU : URow true w.heap.size w ua g.us) (hUS : ∀ b o, ua = some ⟨b, o, none⟩ → b ≠ S ∧ b ≠ M) :
    Calls Try.prog 118 #[.pointer (some ⟨S, 0, none⟩)] w fun e w' => e = .returned (.tuple #[]) ∧ Kp (fun b => b = S ∨ b = M) w w' ∧
      Bd w' S (boardV g.tick g.g0 g.g1 g.next (.slice ua g.us.length cu) M (gridF g.us) fresh) ∧ ∃ n2 s2, n2 ≤ g.us.length ∧ IM w' M n2 s2 (whoV ua g.us) := by
  obtain ⟨lS, cS, fS⟩ := id hB
  have c5 : w.cell? ⟨S, 5, none⟩ = some (.map (some M)) := cS 5 (by omega)
  obtain ⟨y, ry, my, ty⟩ := hM.clear (t := 176) (e := 175) (by kernel_rfl) 0
  have hyk : Kp (fun b => b = M) w y := Kp.turned ty
  have hBy := hB.kp hyk hSM
  have HU := Lib.hid hU
  have HUS := Lib.hid hUS
  have HBY := Lib.hid hBy
  have MY := Lib.hid my
  have KY := Lib.hid hyk
  have HOK := Lib.hid hok
  have HG := Lib.hid hg
  have hszy := hyk.size
  have lSy := hBy.lt
  have hMy := my.lt
  clear cS fS hB hM hU hUS my ty hyk hBy hok hg
  go_enter Try.func118, Try.ntmps118
  go_upto_region 1 with fail
  refine wp_region_lit ?_
  iterate 4 (refine wpList_plain rfl (fun K hK => ?_); go_simp; refine hK _ _ ?_; clear hK K)
  obtain ⟨ZC, hZC⟩ : ∃ z, Try.zeroCells178 = z := ⟨_, rfl⟩
  rw [hZC]
  have hz : ZC = (List.replicate 144 (Value.int .i64 0)).toArray := by rw [← hZC]; kernel_rfl
  have hthere : y.there S 6 ZC.size := fun j hj => by
    have hj' : j < 144 := by rw [hz] at hj; simpa using hj
    exact ⟨by rw [HBY.out.2.1 (6 + j) (by omega)]; rfl, HBY.out.2.2 _⟩
  refine list_storeM S 6 ZC 178 (.tmp 11) (.tmp 9) rfl rfl rfl rfl rfl hthere (by rw [hz]; kernel_rfl) (by rw [hz]; kernel_rfl) (fun Z => Bd Z S (boardV g.tick g.g0 g.g1 g.next (.slice ua g.us.length cu) M (fun _ => 0) fresh) ∧ Kp (fun b => b = S ∨ b = M) w Z ∧ IM Z M 0 0 (fun _ => none)) ⟨?_, ?_, ?_⟩ ?_
  · have h1 := HBY.out.cells (o := 6) (List.replicate 144 (Value.int .i64 0)) (by simp)
    rw [hz]
    refine Bd.fn (w := y.setCells S 6 (List.replicate 144 (Value.int .i64 0))) h1 (fun i hi => ?_)
    by_cases h2 : 6 ≤ i ∧ i < 150
    · obtain ⟨d, rfl⟩ : ∃ d, i = d + 6 := ⟨i - 6, by omega⟩
      rw [if_pos (by simp; omega), boardV_grid _ _ _ _ _ _ _ _ _ (by omega)]
      have hd : d < 144 := by omega
      rw [show d + 6 - 6 = d by omega]
      exact replicate_getD hd
    · rw [if_neg (by simp; omega)]
      exact boardV_else i (by omega)
  · exact (KY.out.imp (fun b _ h => Or.inr h)).trans (kp_setCells S _ 6 y) (fun b _ h => Or.inl h)
  · exact MY.out.kp (kp_setCells S _ 6 y) (fun h => hSM h.symm)
  clear hz hZC
  rintro V ⟨bV, kV, mV⟩
  clear hthere HBY KY MY lSy hMy ry hszy
  refine wpList_nil ?_
  have lSV := bV.lt
  have c4 : V.cell? ⟨S, 4, none⟩ = some (.slice ua g.us.length cu) := bV.2.1 4 (by omega)
  have BV := Lib.hid bV
  have KV := Lib.hid kV
  have MV := Lib.hid mV
  have hszV := kV.size
  have hMV := mV.lt
  have hn0 : (0 : Int) ≤ (g.us.length : Int) := by omega
  clear bV kV mV
  go_wp2_with fail
  go_loopw [2, 3, 18] (fun _ _ i wr => ∃ k : Nat, i = .int .i64 k ∧ k ≤ g.us.length ∧ (Bd wr S (boardV g.tick g.g0 g.g1 g.next (.slice ua g.us.length cu) M (gridF (g.us.take k)) fresh) ∧ (∃ n2 s2, n2 ≤ k ∧ IM wr M n2 s2 (whoV ua (g.us.take k))) ∧ Kp (fun b => b = S ∨ b = M) w wr)) (fun _ _ i _ => (g.us.length - intOf i).toNat)
  case atStart => exact ⟨0, rfl, by omega, BV.out, ⟨0, 0, by omega, MV.out⟩, KV.out⟩
  case round =>
    obtain ⟨k, rfl, hk, bR, ⟨n2, s2, hn2, mR⟩, kR⟩ := hrel
    have hszr := kR.size
    have lSR := bR.lt
    have c4 : wr.cell? ⟨S, 4, none⟩ = some (.slice ua g.us.length cu) := bR.2.1 4 (by omega)
    have c5 : wr.cell? ⟨S, 5, none⟩ = some (.map (some M)) := bR.2.1 5 (by omega)
    by_cases hlt : k < g.us.length
    · obtain ⟨u, hu⟩ : ∃ u, g.us.getD k zeroU = u := ⟨_, rfl⟩
      have hum : u ∈ g.us := by rw [← hu, getD_lt hlt]; exact List.getElem_mem hlt
      obtain ⟨b, o, hua, hbB, q0, q1, q2, q3, q4, q5, q6, q7, q8, q9, q10⟩ := HU.out.getN k hlt u hu
      subst hua
      obtain ⟨nS, nM⟩ := HUS.out b o rfl
      have hcc := fun (j : Nat) => kR.cell b j hbB (fun h => by rcases h with h | h; exact nS h; exact nM h)
      rw [← hcc] at q0 q3 q4
      have hbr : b < wr.heap.size := by omega
      obtain ⟨x0, x1, y0, y1, hwf⟩ := HOK.out u hum
      obtain ⟨xn, hx⟩ := Int.eq_ofNat_of_zero_le x0
      obtain ⟨yn, hy⟩ := Int.eq_ofNat_of_zero_le y0
      have hx12 : xn < 12 := by omega
      have hy12 : yn < 12 := by omega
      rw [hx] at q3
      rw [hy] at q4
      have hki : (0 : Int) ≤ (k : Int) := by omega
      have hkl : (k : Int) < (g.us.length : Int) := by omega
      have hxi : (xn : Int) < 12 := by omega
      have hyi : (yn : Int) < 12 := by omega
      have hx0 : (0 : Int) ≤ (xn : Int) := by omega
      have hy0 : (0 : Int) ≤ (yn : Int) := by omega
      have HUu := Lib.hid hu
      have HXN := Lib.hid hx
      have HYN := Lib.hid hy
      have HWF := Lib.hid hwf
      have BR := Lib.hid bR
      have MR := Lib.hid mR
      have KR := Lib.hid kR
      clear hu hum hx hy hwf bR mR kR hcc q1 q2 q5 q6 q7 q8 q9 q10 x0 x1 y0 y1 c4
      have c4 : wr.cell? ⟨S, 4, none⟩ = some (.slice (some ⟨b, o, none⟩) g.us.length cu) := BR.out.2.1 4 (by omega)
      go_upto_region 6 with fail
      haveI := Cw.ne wr
      have hcw := fun (x : Cw wr) => x.cell
      refine region_cw_tail 9 (by kernel_rfl) (by kernel_rfl) ?_
      simp only [List.take_succ_cons, List.take_zero, List.drop_succ_cons, List.drop_zero]
      repeat (go_big_quiet_step (fail))
      refine wpQuiet_nil ?_
      intro V2 hV2
      obtain ⟨y, ry, my, ty⟩ := (MR.out.call hV2).put (intKeys (by kernel_rfl)) (t := 176) (e := 175) (by kernel_rfl) (by unfold maxLen; omega) u.id HWF.out (uPtr (some ⟨b, o, none⟩) k)
      have hry : (Instr.mapUpdate 176 (.map (some M)) (.int .i64 u.id) (.pointer (some ⟨b, o + k * 11, none⟩))).run Try.prog V2 = .ok () y := ry
      have kpy := (KR.out.then_ hV2).trans ((Kp.turned ty).imp (Y := fun c => c = S ∨ c = M) (fun c _ hc => Or.inr hc)) (fun _ _ h => h)
      have kv := kp_of hV2 (fun _ => False)
      have bY := (BR.out.call hV2).kp (Kp.turned ty) hSM
      have hq0 : y.cell? ⟨b, o + k * 11, none⟩ = some (.int .i64 u.id) := ((Kp.turned ty).cell _ _ (by have := hV2.size; omega) nM).trans ((hV2.cell (p := ⟨b, _, none⟩) hbr).trans q0)
      have hq3 : y.cell? ⟨b, o + k * 11 + 3, none⟩ = some (.int .i64 xn) := ((Kp.turned ty).cell _ _ (by have := hV2.size; omega) nM).trans ((hV2.cell (p := ⟨b, _, none⟩) hbr).trans q3)
      have hq4 : y.cell? ⟨b, o + k * 11 + 4, none⟩ = some (.int .i64 yn) := ((Kp.turned ty).cell _ _ (by have := hV2.size; omega) nM).trans ((hV2.cell (p := ⟨b, _, none⟩) hbr).trans q4)
      have hby : b < y.heap.size := by have := hV2.size; have := (Kp.turned ty).size; omega
      have lSy := bY.lt
      have BY := Lib.hid bY
      have MY := Lib.hid my
      have KPY := Lib.hid kpy
      clear hcw q0 q3 q4 c4 c5 ry my ty kpy kv bY hV2 BR MR KR
      refine wpList_plain rfl (fun K hK => ?_)
      go_simp
      refine hK _ _ ?_
      clear hK K hry
      refine wpList_nil ?_
      go_upto_region 7 with fail
      haveI := Cw.ne y
      have hcw := fun (x : Cw y) => x.cell
      refine region_cw_tail 17 (by kernel_rfl) (by kernel_rfl) ?_
      simp only [List.take_succ_cons, List.take_zero, List.drop_succ_cons, List.drop_zero]
      repeat (go_big_quiet_step (fail))
      refine wpQuiet_nil ?_
      intro V3 hV3
      have bY3 := BY.out.call hV3
      refine list_store1 S (6 + yn * 12 + xn) (.int .i64 u.id) 3 (.tmp 53) (.tmp 49) rfl rfl rfl rfl rfl (by rw [bY3.2.1 _ (by omega)]; rfl) (bY3.2.2 _) rfl (by kernel_rfl) (fun Z => Bd Z S (boardV g.tick g.g0 g.g1 g.next (.slice (some ⟨b, o, none⟩) g.us.length cu) M (gridF (g.us.take (k + 1))) fresh) ∧ (∃ n2 s2, n2 ≤ k + 1 ∧ IM Z M n2 s2 (whoV (some ⟨b, o, none⟩) (g.us.take (k + 1)))) ∧ Kp (fun b => b = S ∨ b = M) w Z) ⟨?_, ?_, ?_⟩ ?_
      · refine (bY3.store (.int .i64 u.id) (i := 6 + yn * 12 + xn) (by omega)).fn (fun j hj => ?_)
        rw [grid_succ g.us k hlt u HUu.out]
        by_cases h2 : 6 ≤ j ∧ j < 150
        · obtain ⟨d, rfl⟩ : ∃ d, j = d + 6 := ⟨j - 6, by omega⟩
          rw [boardV_grid _ _ _ _ _ _ _ _ _ (by omega), boardV_grid _ _ _ _ _ _ _ _ _ (by omega)]
          have e1 : (u.y * 12 + u.x).toNat = yn * 12 + xn := by rw [HXN.out, HYN.out]; omega
          unfold gridStep
          rw [e1]
          by_cases h3 : d = yn * 12 + xn
          · rw [if_pos (by omega), if_pos h3]
          · rw [if_neg (by omega), if_neg h3]
        · rw [if_neg (by omega)]
          exact boardV_else j (by omega)
      · refine ⟨n2 + 1, _, by omega, ((MY.out.call hV3).kp (Kp.setCell V3 ⟨S, _, none⟩ _) (fun h => hSM h.symm)).fn (fun id => ?_) rfl⟩
        rw [who_succ HG.out _ k hlt u HUu.out]
      · exact (KPY.out.then_ hV3).andset ⟨S, _, none⟩ _ (Or.inl rfl)
      rintro Z ⟨bZ, mZ, kZ⟩
      have BZ := Lib.hid bZ
      have MZ := Lib.hid mZ
      have KZ := Lib.hid kZ
      clear bZ mZ kZ hcw hV3 bY3
      refine wpList_nil ?_
      go_wp2_with fail
      go_roundw
      case rel => exact ⟨k + 1, by go_num, by omega, BZ.out, MZ.out, KZ.out⟩
      case measure => simp [intOf]; omega
    · obtain rfl : k = g.us.length := by omega
      rw [List.take_length] at bR mR
      go_wp2_with fail
      go_end0
      exact ⟨rfl, kR, bR, n2, s2, hn2, mR⟩

def cellsAllN (us : List U) : List Value := us.flatMap cellsN
theorem cellsN_length (u : U) : (cellsN u).length = 11 := rfl
theorem cellsAllN_length (us : List U) : (cellsAllN us).length = us.length * 11 := by
  induction us with
  | nil => rfl
  | cons u us ih => unfold cellsAllN at *; rw [List.flatMap_cons, List.length_append, ih, cellsN_length, List.length_cons]; omega
theorem cellsAllN_get (us : List U) : ∀ (i j : Nat), i < us.length → j < 11 → (cellsAllN us)[i * 11 + j]? = (cellsN (us.getD i zeroU))[j]? := by
  unfold cellsAllN
  induction us with
  | nil => intro i j h; simp at h
  | cons u us ih =>
    intro i j hi hj
    rw [List.flatMap_cons]
    cases i with
    | zero =>
      rw [Nat.zero_mul, Nat.zero_add, List.getElem?_append_left (by rw [cellsN_length]; exact hj)]
      rfl
    | succ i =>
      rw [List.getElem?_append_right (by rw [cellsN_length]; omega), cellsN_length, show (i + 1) * 11 + j - 11 = i * 11 + j by omega, ih i j (by simpa using hi) hj]
      rfl
theorem cellsAllN_one (us : List U) : ∀ v ∈ cellsAllN us, v.oneCell' = true := by
  intro v hv
  unfold cellsAllN at hv
  obtain ⟨u, -, hu⟩ := List.mem_flatMap.1 hv
  simp [cellsN, cellsE] at hu
  rcases hu with rfl | rfl | rfl | rfl | rfl | rfl | rfl | rfl | rfl | rfl | rfl <;> rfl
theorem URow.of_ownN {B : Nat} {w : World} {v : Value} {us : List U} (h : w.ownsRow B 142 11 v us.length (cellsAllN us)) : ∃ a c, v = .slice a us.length c ∧ us.length ≤ maxLen ∧ URow true w.heap.size w a us ∧ ∀ b o, a = some ⟨b, o, none⟩ → v.ownBlock = some b := by
  rcases h.2 with ⟨h1, h2⟩ | ⟨g, cap, cur, h1, -, -, h4, h5, -⟩
  · exact ⟨none, 0, by rw [h1, h2], by rw [h2]; simp [maxLen], fun i hi => by omega, fun b o e => by cases e⟩
  · subst h1
    refine ⟨_, cap, rfl, by omega, ?_, ?_⟩
    · intro i hi
      refine ⟨g, 0, rfl, (World.ownsRow.lt h g rfl).2, fun j hj => ?_⟩
      have hj' : j < 11 := hj
      have := World.ownsRow.cellAt h (i * 11 + j) (by omega)
      rw [cellsAllN_get us i j hi hj'] at this
      rw [show 0 + i * szOf true + j = i * 11 + j from by show 0 + i * 11 + j = _; omega]
      exact this
    · intro b o e
      cases e
      rfl
theorem infoUnit : (Try.prog.info? 142).map (fun i => (i.zero, i.size, i.bytes)) = some (some (.agg #[.int .i64 0, .int .i64 0, .int .i64 0, .int .i64 0, .int .i64 0, .int .i64 0, .int .i64 0, .int .i64 0, .int .i64 0, .int .i64 0, .int .i64 0]), 11, 88) := by kernel_rfl

def CloneEnd (us : List U) (w : World) (e : Ending) (w' : World) : Prop := ∃ uv, e = .returned uv ∧ w'.ownsRow w.heap.size 142 11 uv us.length (cellsAllN us) ∧ Below w.heap.size w w'
set_option maxHeartbeats 1600000 in
set_option maxRecDepth 100000 in
theorem clone_any (us : List U) (ua : Option Addr) (cu : Nat) (h20 : us.length ≤ 1000) (w : World) (hU : URow true w.heap.size w ua us) (hnil : ua = none → us.length = 0 ∧ cu = 0) :
    Calls Try.prog 117 #[.slice ua us.length cu] w (CloneEnd us w) := by
  cases ua with
  | none =>
    obtain ⟨h1, h2⟩ := hnil rfl
    have hz : us = [] := List.eq_nil_of_length_eq_zero h1
    subst hz h2
    have hq := fun w : World => Lib.run_eql_slice_nil (P := Try.prog) w 30 142 none 0 0 0 0 Try.underlying30
    go_enter Try.func117, Try.ntmps117
    go_wp2_with fail
    go_ret
    exact ⟨_, rfl, World.ownsRow_nil _ _ _ _, Below.refl _ _⟩
  | some ad =>
    obtain ⟨i, hi⟩ : ∃ i, Try.prog.info? 142 = some i := by
      cases h : Try.prog.info? 142 with
      | none => have := infoUnit; rw [h] at this; cases this
      | some i => exact ⟨i, rfl⟩
    have hinf := infoUnit
    rw [hi] at hinf
    simp only [Option.map_some, Option.some.injEq, Prod.mk.injEq] at hinf
    obtain ⟨hj1, hj2, hj3⟩ := hinf
    obtain ⟨V, hV⟩ : ∃ V, w.alloc (.cells #[] 142) = V := ⟨_, rfl⟩
    have hbV : Below w.heap.size w V := by rw [← hV]; exact (Below.refl _ _).alloc (Nat.le_refl _) _
    have hown0 : V.ownsRow w.heap.size 142 11 (.slice (some ⟨w.heap.size, 0, none⟩) 0 0) 0 [] := by
      rw [← hV]
      exact ⟨rfl, Or.inr ⟨w.heap.size, 0, #[], rfl, Nat.le_refl _, heap_alloc_new w _, Nat.le_refl _, by unfold maxLen; omega, rfl, rfl⟩⟩
    have hq := fun w : World => Lib.run_eql_slice_nil (P := Try.prog) w 30 142 (some ad) us.length cu 0 0 Try.underlying30
    have happ : ∃ v' w', (Builtin.append_ #[30, 30] 30 #[.slice (some ⟨w.heap.size, 0, none⟩) 0 0, .slice (some ad) us.length cu]).run Try.prog V = .ok v' w' ∧ w'.ownsRow w.heap.size 142 11 v' us.length (cellsAllN us) ∧ Below w.heap.size w w' := by
      by_cases hm : 0 < us.length
      · obtain ⟨b, o, hab, hbB, -⟩ := hU 0 hm
        cases hab
        obtain ⟨v', w', h2, h3, h4, -, h5⟩ := run_append_own_at (P := Try.prog) V w.heap.size 30 30 142 i _ 11 88 Try.underlying30 hi hj1 hj2 hj3 rfl (by omega) _ 0 [] hown0 ⟨b, o, none⟩ us.length cu (cellsAllN us) (cellsAllN_length us) (fun j x hj => by
          have hjl := (List.getElem?_eq_some_iff.1 hj).1
          rw [cellsAllN_length] at hjl
          obtain ⟨b', o', hab, hbB', hc⟩ := (hU.below hbV) (j / 11) (by omega)
          cases hab
          have h3 := hc (j % 11) (by show j % 11 < 11; omega)
          have h4 := cellsAllN_get us (j / 11) (j % 11) (by omega) (by omega)
          rw [show j / 11 * 11 + j % 11 = j from by omega] at h4
          rw [addr_add, show o + j = o + j / 11 * szOf true + j % 11 from by show _ = o + j / 11 * 11 + j % 11; omega, h3, ← hj, h4]
          rfl) (cellsAllN_one us) (by unfold maxLen; omega) (by omega) hbV.size
        rw [Nat.zero_add, List.nil_append] at h3
        refine ⟨v', w', h2, h3, ?_⟩
        have kg := Kp.grown h4
        exact hbV.trans (kg.below (fun k hk => by
          have : some k = some w.heap.size := hk
          have : k = w.heap.size := Option.some.inj this
          omega) hbV.size)
      · have h0 : us.length = 0 := by omega
        have hz : us = [] := List.eq_nil_of_length_eq_zero h0
        subst hz
        refine ⟨.slice (some ⟨w.heap.size, 0, none⟩) 0 0, V, ?_, hown0, hbV⟩
        simp [Builtin.append_, run_underlying Try.underlying30, sizeOf, typeInfo, hi, Builtin.lenOf, Builtin.firstCells, loadCells, loadCellsFrom, storeCells]
    obtain ⟨v', w', hrun, hown, hbel⟩ := happ
    have HO := Lib.hid hown
    have HBL := Lib.hid hbel
    clear hown hbel hown0 hbV hU hj1 hj2 hj3 hi
    go_enter Try.func117, Try.ntmps117
    go_wp2_with (at_builtin; refine list_run_append (by rfl) _ _ _ _ (by rfl) (by rfl) (by rfl) (by rfl) hrun ?_)
    go_ret
    exact ⟨_, rfl, HO.out, HBL.out⟩

/-- A board is handed back. -/
def PlaceEnd (g : G) (w : World) (e : Ending) (w' : World) : Prop :=
  ∃ S M ub cu, e = .returned (.pointer (some ⟨S, 0, none⟩)) ∧ w.heap.size ≤ S ∧ w.heap.size ≤ M ∧ S ≠ M ∧ (∀ b o, ub = some ⟨b, o, none⟩ → w.heap.size ≤ b ∧ b ≠ S ∧ b ≠ M) ∧ Below w.heap.size w w' ∧
    Bd w' S (boardV g.tick g.g0 g.g1 g.next (.slice ub g.us.length cu) M (gridF g.us) g.next) ∧ (∃ n s, n ≤ g.us.length ∧ IM w' M n s (whoV ub g.us)) ∧ w'.ownsRow w.heap.size 142 11 (.slice ub g.us.length cu) g.us.length (cellsAllN g.us)
set_option maxHeartbeats 6400000 in
set_option maxRecDepth 100000 in
theorem place_any (g : G) (ua : Option Addr) (cu : Nat) (w : World) (hg : byId g.us) (h20 : g.us.length ≤ 20) (hok : ∀ u ∈ g.us, 0 ≤ u.x ∧ u.x < 12 ∧ 0 ≤ u.y ∧ u.y < 12 ∧ (Lit.int .i64 u.id).wf = true) (hU : URow true w.heap.size w ua g.us) (hnil : ua = none → g.us.length = 0 ∧ cu = 0) :
    Calls Try.prog 97 #[.agg #[.int .i64 g.tick, .int .i64 g.g0, .int .i64 g.g1, .int .i64 g.next, .slice ua g.us.length cu]] w (PlaceEnd g w) := by
  have hmm := @run_makeMap Try.prog
  go_enter Try.func97, Try.ntmps97
  go_upto_region 2 with fail
  obtain ⟨V, hV⟩ : ∃ V, (((w.alloc (.cells #[.int .i64 g.tick, .int .i64 g.g0, .int .i64 g.g1, .int .i64 g.next, .slice ua g.us.length cu] 32)).alloc (.map #[] 0)).alloc (.cells (((((((Try.zeroCells180.setIfInBounds 0 (.int .i64 g.tick)).setIfInBounds 1 (.int .i64 g.g0)).setIfInBounds 2 (.int .i64 g.g1)).setIfInBounds 3 (.int .i64 g.next)).setIfInBounds 4 (.slice ua g.us.length cu)).setIfInBounds 5 (.map (some (w.heap.size + 1)))).setIfInBounds 150 (.int .i64 g.next)) 180)) = V := ⟨_, rfl⟩
  rw [hV]
  have hbV : Below w.heap.size w V := by rw [← hV]; exact (((Below.refl _ _).alloc (Nat.le_refl _) _).alloc (by simp) _).alloc (by simp; omega) _
  have k1 : Blk V w.heap.size #[.int .i64 g.tick, .int .i64 g.g0, .int .i64 g.g1, .int .i64 g.next, .slice ua g.us.length cu] := by rw [← hV]; exact ((Blk.new w _ _).alloc _).alloc _
  have mV : IM V (w.heap.size + 1) 0 0 (fun _ => none) := by
    have := (MapOf.new (P := Try.prog) (k := 3) (emb := Value.int .i64) (ok := fun a => (Lit.int .i64 a).wf = true) (w.alloc (.cells #[.int .i64 g.tick, .int .i64 g.g0, .int .i64 g.g1, .int .i64 g.next, .slice ua g.us.length cu] 32))).alloc (.cells (((((((Try.zeroCells180.setIfInBounds 0 (.int .i64 g.tick)).setIfInBounds 1 (.int .i64 g.g0)).setIfInBounds 2 (.int .i64 g.g1)).setIfInBounds 3 (.int .i64 g.next)).setIfInBounds 4 (.slice ua g.us.length cu)).setIfInBounds 5 (.map (some (w.heap.size + 1)))).setIfInBounds 150 (.int .i64 g.next)) 180)
    rw [hV] at this
    simpa using this
  have bV : Bd V (w.heap.size + 2) (boardV g.tick g.g0 g.g1 g.next (.slice ua g.us.length cu) (w.heap.size + 1) (fun _ => 0) g.next) := by
    obtain ⟨R, hR⟩ : ∃ R, List.replicate 144 (Value.int .i64 0) = R := ⟨_, rfl⟩
    have hRl : R.length = 144 := by rw [← hR]; exact List.length_replicate
    have hRg : ∀ d, d < 144 → R[d]? = some (.int .i64 0) := fun d hd => by rw [← hR, List.getElem?_replicate, if_pos hd]
    obtain ⟨ZC, hZC⟩ : ∃ z, Try.zeroCells180 = z := ⟨_, rfl⟩
    have hz : ZC = (([.int .i64 0, .int .i64 0, .int .i64 0, .int .i64 0, .slice none 0 0, .map none] : List Value) ++ (R ++ [Value.int .i64 0])).toArray := by rw [← hZC, ← hR]; kernel_rfl
    have hzs : ZC.size = 151 := by rw [hz]; simp [hRl]
    have hzg : ∀ d, d < 144 → ZC[d + 6]? = some (.int .i64 0) := fun d hd => by
      rw [hz, List.getElem?_toArray, List.getElem?_append_right (by simp), List.getElem?_append_left (by simp [hRl]; omega)]
      have : d + 6 - ([.int .i64 0, .int .i64 0, .int .i64 0, .int .i64 0, .slice none 0 0, .map none] : List Value).length = d := by simp
      rw [this]
      exact hRg d hd
    rw [hZC] at hV
    have hs2 : ((w.alloc (.cells #[.int .i64 g.tick, .int .i64 g.g0, .int .i64 g.g1, .int .i64 g.next, .slice ua g.us.length cu] 32)).alloc (.map #[] 0)).heap.size = w.heap.size + 2 := by simp
    refine ⟨by rw [← hV]; simp, fun i hi => ?_, fun i => ?_⟩
    · rw [← hV, ← hs2, World.cell?_alloc_new]
      by_cases h2 : 6 ≤ i ∧ i < 150
      · obtain ⟨d, rfl⟩ : ∃ d, i = d + 6 := ⟨i - 6, by omega⟩
        rw [boardV_grid _ _ _ _ _ _ _ _ _ (by omega)]
        simp only [Array.getElem?_setIfInBounds]
        repeat rw [if_neg (by omega)]
        exact hzg d (by omega)
      · have hc : i = 0 ∨ i = 1 ∨ i = 2 ∨ i = 3 ∨ i = 4 ∨ i = 5 ∨ i = 150 := by omega
        rcases hc with rfl | rfl | rfl | rfl | rfl | rfl | rfl <;> simp [hzs, boardV]
    · rw [← hV, ← hs2, World.frozen?_alloc_new]
  have hsV := hbV.size
  have hU2 := (hU.below hbV).mono hsV
  obtain ⟨l1, c1, -⟩ := id k1
  have hSV := bV.lt
  have BV := Lib.hid bV
  have MV := Lib.hid mV
  have HBV := Lib.hid hbV
  have HU2 := Lib.hid hU2
  have HNIL := Lib.hid hnil
  have HG := Lib.hid hg
  have HOK := Lib.hid hok
  clear hmm hV bV mV hbV hU2 k1 hU hnil hg hok
  go_wp2_with fail
  refine (clone_any g.us ua cu (by omega) _ HU2.out HNIL.out).mono ?_
  rintro e w1 ⟨uv, rfl, own, b1⟩
  obtain ⟨ub, cb, huv, -, hrow, hblk⟩ := URow.of_ownN own
  subst huv
  have b1B := BV.out.call b1
  obtain ⟨lS, cS, fS⟩ := id b1B
  have hs1 := b1.size
  have c4 : (w1.cell? ⟨w.heap.size + 2, 4, none⟩) = some (.slice ua g.us.length cu) := cS 4 (by omega)
  have f4 := fS 4
  have bS := (b1B.store (.slice ub g.us.length cb) (i := 4) (by omega)).fn (f' := boardV g.tick g.g0 g.g1 g.next (.slice ub g.us.length cb) (w.heap.size + 1) (fun _ => 0) g.next) (fun i hi => (by
    by_cases h4 : i = 4
    · subst h4; rfl
    · rw [if_neg h4]
      by_cases h6 : i < 6
      · match i, h6, h4 with
        | 0, _, _ => rfl
        | 1, _, _ => rfl
        | 2, _, _ => rfl
        | 3, _, _ => rfl
        | 5, _, _ => rfl
      · obtain ⟨n, rfl⟩ : ∃ n, i = n + 6 := ⟨i - 6, by omega⟩
        rfl))
  have hubb : ∀ b o, ub = some ⟨b, o, none⟩ → V.heap.size ≤ b := fun b o e => (World.ownsRow.lt own b (hblk b o e)).1
  have kst := Kp.setCell w1 ⟨w.heap.size + 2, 4, none⟩ (.slice ub g.us.length cb)
  have own2 := own_kp own kst (fun b hb h => by have h1 := (World.ownsRow.lt own b hb).1; have h2 : b = w.heap.size + 2 := h; omega)
  have m1 := (MV.out.call b1).kp kst (fun h => by have h2 : w.heap.size + 1 = w.heap.size + 2 := h; omega)
  have hrow2 : URow true w1.heap.size (w1.setCell ⟨w.heap.size + 2, 4, none⟩ (.slice ub g.us.length cb)) ub g.us := fun i hi => by
    obtain ⟨b, o, h1, h2, h3⟩ := hrow i hi
    exact ⟨b, o, h1, h2, fun j hj => (kst.cell b _ h2 (fun h => by have h4 : b = w.heap.size + 2 := h; have := hubb b o h1; omega)).trans (h3 j hj)⟩
  have hsz2 : (w1.setCell ⟨w.heap.size + 2, 4, none⟩ (.slice ub g.us.length cb)).heap.size = w1.heap.size := by simp
  have hix := index_any g (w.heap.size + 2) (w.heap.size + 1) 0 0 (fun _ => none) ub cb (fun _ => 0) g.next (w1.setCell ⟨w.heap.size + 2, 4, none⟩ (.slice ub g.us.length cb)) HG.out h20 HOK.out bS m1 (by omega) (hrow2.mono (by rw [hsz2]; exact Nat.le_refl _)) (fun b o e => by have := hubb b o e; omega)
  have HIX := Lib.hid hix
  have OWN2 := Lib.hid own2
  have HUB := Lib.hid hubb
  have HBLK := Lib.hid hblk
  have hbw : Below w.heap.size w (w1.setCell ⟨w.heap.size + 2, 4, none⟩ (.slice ub g.us.length cb)) := (HBV.out.trans (b1.mono hsV)).setCell (by show w.heap.size ≤ w.heap.size + 2; omega) _
  have HBW := Lib.hid hbw
  clear own hrow hblk b1B cS fS bS hubb kst own2 m1 hrow2 hix hbw b1 c1 l1
  go_wp2_with fail
  refine (HIX.out).mono ?_
  rintro e w3 ⟨rfl, k3, bd3, m3⟩
  have K3 := Lib.hid k3
  have BD3 := Lib.hid bd3
  have M3 := Lib.hid m3
  clear k3 bd3 m3 HIX
  go_wp2_with fail
  go_ret
  refine ⟨w.heap.size + 2, w.heap.size + 1, ub, cb, rfl, by omega, by omega, by omega, fun b o e => ?_, ?_, BD3.out, M3.out, ?_⟩
  · have := HUB.out b o e
    omega
  · refine HBW.out.trans (K3.out.below (fun b hb => ?_) (by rw [hsz2]; omega))
    rcases hb with h | h <;> omega
  · refine own_base (own_kp OWN2.out K3.out (fun b hb h => ?_)) hsV
    have := (World.ownsRow.lt OWN2.out b hb).1
    rcases h with h | h <;> omega
end Go.Proofs.Ytlfljlhppigejab
