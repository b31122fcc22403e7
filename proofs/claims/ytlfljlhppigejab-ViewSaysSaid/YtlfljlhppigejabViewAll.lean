/-
  Views: what they tell, how they are sorted (the kit's contract of sort.Slice), the walks of view.Elder and view.Mark.
-/
import Derived.Test.YtlfljlhppigejabPackBase
import Derived.Test.YtlfljlhppigejabPackVw
import Derived.Sort.Statements
import Derived.Test.YtlfljlhppigejabElderGame
import Derived.Test.YtlfljlhppigejabPackPure
import Derived.Test.YtlfljlhppigejabPackMix
import Derived.Ground.GgsProg
import Derived.Shelf.Lay
import Derived.Shelf.SlSortFuncK.WholeK
import Derived.Shelf.GgSortFunc.Tiny
import Derived.BigQuiet
import Derived.Deep.QuietTactic
import Derived.Test.YtlfljlhppigejabElderCheck
import Derived.Test.YtlfljlhppigejabElderOwn
import Derived.Test.YtlfljlhppigejabElderMove
import Derived.Test.YtlfljlhppigejabElderWork
namespace Go.Proofs.Ytlfljlhppigejab

/-- Where an ID stands: 0 stands nowhere. -/
def placeStep (f : Int → Option (Int × Int)) (u : U) : Int → Option (Int × Int) := fun id => if id = u.id then some (u.x, u.y) else f id
def placesF (us : List U) : Int → Option (Int × Int) := us.foldl placeStep (fun id => if id = 0 then some (-1, -1) else none)
def seenF (us : List U) (u : U) : Sn :=
  ⟨u.x, u.y, u.owner, u.kind, u.hp, u.does, u.gx, u.gy, ((placesF us u.target).getD (0, 0)).1, ((placesF us u.target).getD (0, 0)).2⟩
theorem places_succ (us : List U) (k : Nat) (h : k < us.length) (u : U) (hu : us.getD k zeroU = u) (id : Int) : placesF (us.take (k + 1)) id = if id = u.id then some (u.x, u.y) else placesF (us.take k) id := by
  unfold placesF
  rw [List.take_succ_eq_append_getElem h, List.foldl_append]
  rw [getD_lt h] at hu
  rw [hu]
  rfl
theorem seen_succ (us : List U) (k : Nat) (h : k < us.length) (u : U) (hu : us.getD k zeroU = u) (vs : List U) : (us.take (k + 1)).map (seenF vs) = (us.take k).map (seenF vs) ++ [seenF vs u] := by
  rw [List.take_succ_eq_append_getElem h, List.map_append]
  rw [getD_lt h] at hu
  rw [hu]
  rfl
end Go.Proofs.Ytlfljlhppigejab
namespace Go.Proofs.Ytlfljlhppigejab
open Go.Shelf Go.RowKit Go.Lib Go.Sort

shelf_lay LaysGg.n6 Ggs 6 at Try as Try.sl6
noncomputable def svT : TypeInfo := (Try.prog.info? 59).get (by kernel_rfl)
noncomputable def svE : TypeInfo := (Try.prog.info? 136).get (by kernel_rfl)
theorem svK (n : Nat) (h2 : 2 ≤ n) : Lib.swapperK n svE 25 = 9 := by
  have a : svE.hasPointers = false := by kernel_rfl
  have b : svE.bytes = 80 := by kernel_rfl
  have c : (n == 0) = false := by simp; omega
  have d : (n == 1) = false := by simp; omega
  simp [Lib.swapperK, a, b, c, d]

set_option maxHeartbeats 2000000 in
/-- The closure of sorted. -/
theorem less_any (blk off c Bs size : Nat) (W : World) (d : Array Sn) (hs : W.cell? ⟨Bs, 0, none⟩ = some (.slice (some ⟨blk, off, none⟩) size c))
    (hx : ∀ t, t < size → W.cell? ⟨blk, off + t * 10, none⟩ = some (.int .i64 d[t]!.x)) (hy : ∀ t, t < size → W.cell? ⟨blk, off + t * 10 + 1, none⟩ = some (.int .i64 d[t]!.y)) (i j : Nat) (hi : i < size) (hj : j < size) (_hsz : size < 4611686018427387904) :
    Calls Try.prog 100 #[.int .i64 i, .int .i64 j, .pointer (some ⟨Bs, 0, none⟩)] W fun e w' => e = .returned (.bool (ltSn d[i]! d[j]!)) ∧ ∃ q, w' = W.drewN q := by
  obtain ⟨xi, hxi⟩ : ∃ x, d[i]!.x = x := ⟨_, rfl⟩
  obtain ⟨yi, hyi⟩ : ∃ x, d[i]!.y = x := ⟨_, rfl⟩
  obtain ⟨xj, hxj⟩ : ∃ x, d[j]!.x = x := ⟨_, rfl⟩
  obtain ⟨yj, hyj⟩ : ∃ x, d[j]!.y = x := ⟨_, rfl⟩
  have p1 := hx i hi
  have p2 := hx j hj
  have p3 := hy i hi
  have p4 := hy j hj
  unfold ltSn
  rw [hxi] at p1 ⊢
  rw [hxj] at p2 ⊢
  rw [hyi] at p3 ⊢
  rw [hyj] at p4 ⊢
  clear hx hy hxi hyi hxj hyj
  by_cases h : yi = yj
  · have e1 : (yi != yj) = false := by simp [h]
    have HL : Hid (ltYX yi xi yj xj = decide (xi < xj)) := Lib.hid (by show _ = _; unfold ltYX; rw [e1]; rfl)
    clear h
    go_enter Try.func100, Try.ntmps100
    go_wp2
    go_quiet (fail)
    go_wp2
    go_quiet (fail)
    go_wp2
    go_ret
    exact ⟨ret1 (boolv HL.out.symm), _, World.drewN_drewN _ _ _⟩
  · have e1 : (yi != yj) = true := by simp [h]
    have HL : Hid (ltYX yi xi yj xj = decide (yi < yj)) := Lib.hid (by show _ = _; unfold ltYX; rw [e1]; rfl)
    clear h
    go_enter Try.func100, Try.ntmps100
    go_wp2
    go_quiet (fail)
    go_wp2
    go_quiet (fail)
    go_wp2
    go_ret
    exact ⟨ret1 (boolv HL.out.symm), _, World.drewN_drewN _ _ _⟩

/-- What the sort leaves of the world. -/
theorem kp_sorted (w : World) (n blk off : Nat) (d : Array Sn) (os : Array Obj) : Kp (fun b => b = blk) w (grow (putRowK encSn 10 (Sort.ahead w n) blk off d) os) := by
  refine ⟨rfl, rfl, rfl, ?_, fun k hk hx => ?_⟩
  · rw [size_grow]; unfold putRowK putRow mapBlock; simp [Sort.ahead]
  · have hx' : blk ≠ k := fun e => hx e.symm
    rw [heap_grow_old _ _ (by unfold putRowK putRow mapBlock; simp [Sort.ahead]; exact hk)]
    unfold putRowK putRow mapBlock
    simp [Sort.ahead, Array.getElem?_modify, hx']

theorem holds_seen {w : World} {B f c n : Nat} {xs : List Sn} (hn : xs.length = n) (h : w.ownsRow B 136 10 (.slice (some ⟨f, 0, none⟩) n c) n (seenAll xs)) : HoldsK encSn 10 w f 0 xs.toArray := by
  subst hn
  intro t ht
  rw [size_flatK] at ht
  have ht' : t < xs.length * 10 := by simpa using ht
  refine ⟨?_, ?_⟩
  · have := World.ownsRow.cellAt h t ht'
    rw [Nat.zero_add, this, get_flatK _ _ _ _ (by simpa using ht')]
    have h2 := seenAll_get xs (t / 10) (t % 10) (by omega) (by omega)
    rw [show t / 10 * 10 + t % 10 = t by omega] at h2
    rw [h2]
    have h3 : t / 10 < xs.length := by omega
    have h4 : t % 10 < (encSn (xs.getD (t / 10) default)).length := by rw [encSn_length]; omega
    have e : xs.toArray[t / 10]! = xs.getD (t / 10) default := by simp [List.getD, h3]
    rw [e, List.getElem?_eq_getElem h4, getElem!_pos (encSn (xs.getD (t / 10) default)) (t % 10) h4]
    rfl
  · rw [Nat.zero_add]; exact World.ownsRow.frozenAt h t

/-- What sorted leaves. -/
def SortEnd (v : Value) (xs : List Sn) (w : World) (e : Ending) (w' : World) : Prop :=
  ∃ a c ys, v = .slice a xs.length c ∧ e = .returned v ∧ ys.length = xs.length ∧ ys.Perm xs ∧ SortedIn ltSn 0 ys.length ys.toArray ∧ SRow w'.heap.size w' a ys ∧ Kp (fun b => v.ownBlock = some b) w w'

set_option maxHeartbeats 3200000 in
set_option maxRecDepth 100000 in
theorem sorted_any (B : Nat) (v : Value) (xs : List Sn) (hsz : xs.length ≤ 100000) (w : World) (hown : w.ownsRow B 136 10 v xs.length (seenAll xs)) :
    Calls Try.prog 70 #[v] w (SortEnd v xs w) := by
  by_cases h2 : 2 ≤ xs.length
  · obtain ⟨f, c, hv⟩ : ∃ f c, v = .slice (some ⟨f, 0, none⟩) xs.length c := by
      rcases hown.2 with ⟨h1, h3⟩ | ⟨g, cap, cur, h1, -⟩
      · omega
      · exact ⟨g, cap, h1⟩
    subst hv
    have hblk : f < w.heap.size := (World.ownsRow.lt hown f rfl).2
    obtain ⟨W, hW⟩ : ∃ W, w.alloc (.cells #[.slice (some ⟨f, 0, none⟩) xs.length c] 59) = W := ⟨_, rfl⟩
    have hbW : Below w.heap.size w W := by rw [← hW]; exact (Below.refl _ _).alloc (Nat.le_refl _) _
    have hBs : W.cell? ⟨w.heap.size, 0, none⟩ = some (.slice (some ⟨f, 0, none⟩) xs.length c) := by rw [← hW]; simp
    have hWs : W.heap.size = w.heap.size + 1 := by rw [← hW]; simp
    have hH : HoldsK encSn 10 W f 0 xs.toArray := holds_seen rfl (own_kp hown (kp_of hbW (fun _ => False)) (fun _ _ x => x))
    have hless : LessReadsK Try.prog 100 #[.pointer (some ⟨w.heap.size, 0, none⟩)] encSn 10 ltSn f 0 xs.toArray.size W := by
      intro m os dk hs i j hi hj
      have e : sortWorldK encSn 10 W f 0 m dk os = putRowK encSn 10 (grow (Sort.ahead W m) os) f 0 dk := by
        unfold sortWorldK; rw [putRowK_grow _ _ (Sort.ahead W m) _ f 0 _ (by show f < W.heap.size; omega)]
      have hHg : HoldsK encSn 10 (grow (Sort.ahead W m) os) f 0 xs.toArray := holdsK_grow _ _ _ _ f 0 _ (by show f < W.heap.size; omega) (holdsK_ahead _ _ _ _ _ _ _ hH)
      refine less_any f 0 c w.heap.size xs.length _ dk ?_ (fun t ht => ?_) (fun t ht => ?_) i j (by simpa using hi) (by simpa using hj) (by omega)
      · rw [e, cell?_putRowK_other _ _ _ f 0 dk _ (by show w.heap.size ≠ f; omega), cell?_grow _ _ _ (by show w.heap.size < W.heap.size; omega)]; exact hBs
      · rw [e]; exact ((holdsK_putRowK _ _ _ f 0 _ dk hHg hs).cell (i := t) (c := 0) (by simp at hs; omega) (by omega)).1
      · rw [e]; exact ((holdsK_putRowK _ _ _ f 0 _ dk hHg hs).cell (i := t) (c := 1) (by simp at hs; omega) (by omega)).1
    have hS := Any.sort_Slice_cells_sorted Try.sl6 59 136 svT svE (by kernel_rfl) (by kernel_rfl) (by kernel_rfl) (by kernel_rfl) 25 (fun _ => by kernel_rfl) encSn 10 (fun _ => rfl) (by kernel_rfl) (fun _ => by kernel_rfl)
      encSn_one ltSn swo_ltSn 100 _
      (enters_of Try.func100 (by kernel_rfl) rfl) f 0 c xs.toArray (by simpa using h2) (by simp; omega) 139 (by rw [svK _ (by simpa using h2)]; kernel_rfl) false
      (fun args W => run_callFunc_extern Try.func139 (by kernel_rfl) (by kernel_rfl) (by kernel_rfl) (e := Extern.ReflectliteSwapper.swap false) (by kernel_rfl) args W) W hless hH (by omega)
    change Calls Try.prog 99 _ _ _ at hS
    rw [show xs.toArray.size = xs.length from by simp] at hS
    have HS := Lib.hid hS
    have HH := Lib.hid hH
    have HB := Lib.hid hbW
    have HBS := Lib.hid hBs
    clear hless hH hbW hBs hS hown
    go_enter Try.func70, Try.ntmps70
    go_upto_region 1 with fail
    try rw [hW]
    have hlW : w.heap.size < W.heap.size := by omega
    have hbs0 := HBS.out
    clear hW
    go_wp2_with fail
    refine (HS.out).mono ?_
    rintro e w' ⟨rfl, d', n, os, hp, hso, hw'⟩
    have kp : Kp (fun b => b = f) W w' := by rw [hw']; exact kp_sorted W n f 0 d' os
    have hds : d'.size = xs.length := by have := hp.1; simpa using this
    have hHd : HoldsK encSn 10 w' f 0 d' := by
      rw [hw']
      exact holdsK_grow _ _ _ _ f 0 _ (by unfold putRowK putRow mapBlock; simp [Sort.ahead]; omega) (holdsK_putRowK _ _ _ f 0 _ d' (holdsK_ahead _ _ _ _ _ _ _ HH.out) (by simpa using hds))
    have hbs' : w'.cell? ⟨w.heap.size, 0, none⟩ = some (.slice (some ⟨f, 0, none⟩) xs.length c) := (kp.cell _ _ (by omega) (by omega)).trans HBS.out
    have hls' : w.heap.size < w'.heap.size := by have := kp.size; omega
    have HKP := Lib.hid kp
    have HHD := Lib.hid hHd
    have HP := Lib.hid hp
    have HSO := Lib.hid hso
    have HDS := Lib.hid hds
    clear hw' kp hHd hp hso hds
    go_wp2_with fail
    go_ret
    refine ⟨some ⟨f, 0, none⟩, c, d'.toList, rfl, rfl, by simpa using HDS.out, ?_, ?_, ?_, ?_⟩
    · have h5 := HP.out.2.2
      have h6 := HDS.out
      have e1 : d'.extract 0 xs.length = d' := by
        rw [← h6]
        simp
      have e2 : xs.toArray.extract 0 xs.length = xs.toArray := by simp
      rw [e1, e2] at h5
      simpa using h5
    · have h6 := HSO.out
      have h7 := HDS.out
      simpa [h7] using h6
    · intro i hi
      have hi' : i < d'.size := by simpa using hi
      refine ⟨f, 0, rfl, by omega, fun j hj => ?_⟩
      have := ((HHD.out).cell (i := i) (c := j) hi' hj).1
      rw [this]
      have h8 : d'[i]! = d'.toList.getD i default := by simp [List.getD, hi', getElem!_pos]
      rw [← h8]
      have h9 : j < (encSn d'[i]!).length := by rw [encSn_length]; exact hj
      rw [List.getElem?_eq_getElem h9, getElem!_pos (encSn d'[i]!) j h9]
    · exact ((kp_of HB.out (fun b => b = f)).trans HKP.out (fun _ _ h => h)).imp (fun k _ hk => by rw [hk]; rfl)
  · obtain ⟨a, c, rfl, -, hr, -⟩ := SRow.of_own hown
    have hK : Lib.swapperK xs.length svE 25 = xs.length + 1 := by
      rcases Nat.eq_zero_or_pos xs.length with h | h
      · rw [h]; simp [Lib.swapperK]
      · have h1 : xs.length = 1 := by omega
        rw [h1]; simp [Lib.swapperK]
    have hf : ∃ f, Try.prog.funcs.findIdx? (·.name == "internal/reflectlite" ++ ".Swapper$" ++ toString (Lib.swapperK xs.length svE 25)) = some f := by
      rw [hK]
      rcases Nat.eq_zero_or_pos xs.length with h | h
      · rw [h]; exact ⟨131, by kernel_rfl⟩
      · have h1 : xs.length = 1 := by omega
        rw [h1]; exact ⟨132, by kernel_rfl⟩
    obtain ⟨f, hf⟩ := hf
    have hS := fun W => Any.sort_Slice_tiny Try.sl6 59 136 svT svE (by kernel_rfl) (by kernel_rfl) (by kernel_rfl) (by kernel_rfl) 25 (fun _ => by kernel_rfl) a xs.length c (by omega) f hf (.func 100) #[] #[.pointer (some ⟨w.heap.size, 0, none⟩)] W
    have HS : Hid (∀ W, Calls Try.prog 99 #[.iface 59 (.slice a xs.length c), .func (.func 100) #[] #[.pointer (some ⟨w.heap.size, 0, none⟩)]] W fun e w' => e = .returned (.tuple #[]) ∧ ∃ os, w' = grow W os) := Lib.hid hS
    have HR := Lib.hid hr
    clear hS hf hK hr hown
    go_enter Try.func70, Try.ntmps70
    go_wp2_with fail
    refine (HS.out _).mono ?_
    rintro e w' ⟨rfl, os, hw'⟩
    obtain ⟨W, hW⟩ : ∃ W, w.alloc (.cells #[.slice a xs.length c] 59) = W := ⟨_, rfl⟩
    rw [hW] at hw'
    have hbW : Below w.heap.size w W := by rw [← hW]; exact (Below.refl _ _).alloc (Nat.le_refl _) _
    have hWs : W.heap.size = w.heap.size + 1 := by rw [← hW]; simp
    have hb' : Below W.heap.size W w' := by
      rw [hw']
      exact ⟨rfl, rfl, rfl, by rw [size_grow]; omega, fun k hk => heap_grow_old _ _ hk⟩
    have hbs' : w'.cell? ⟨w.heap.size, 0, none⟩ = some (.slice a xs.length c) := (hb'.cell (p := ⟨w.heap.size, 0, none⟩) (by show w.heap.size < W.heap.size; omega)).trans (by rw [← hW]; simp)
    have hls' : w.heap.size < w'.heap.size := by have := hb'.size; omega
    have HBT := Lib.hid (hbW.trans (hb'.mono (by omega)))
    clear hw' hb' hbW hW
    go_wp2_with fail
    go_ret
    refine ⟨a, c, xs, rfl, rfl, rfl, List.Perm.refl _, ?_, (HR.out.below HBT.out).mono HBT.out.size, kp_of HBT.out _⟩
    intro i j _ _ _
    omega
end Go.Proofs.Ytlfljlhppigejab
namespace Go.Proofs.Ytlfljlhppigejab
open Go.RowKit

theorem infoView : (Try.prog.info? 61).map (·.size) = some 4 := by kernel_rfl
theorem infoSeen : ∃ i, Try.prog.info? 136 = some i ∧ i.zero = some (.agg #[.int .i64 0, .int .i64 0, .int .i64 0, .int .i64 0, .int .i64 0, .int .i64 0, .int .i64 0, .int .i64 0, .int .i64 0, .int .i64 0]) ∧ i.size = 10 ∧ i.bytes = 80 :=
  ⟨svE, by kernel_rfl, by kernel_rfl, by kernel_rfl, by kernel_rfl⟩
theorem Blk.store4 {w : World} {S : Nat} {c : Array Value} (h : Blk w S c) (hc : c.size = 4) (v0 v1 v2 v3 : Value) :
    Blk ((((w.setCell ⟨S, 0, none⟩ v0).setCell ⟨S, 1, none⟩ v1).setCell ⟨S, 2, none⟩ v2).setCell ⟨S, 3, none⟩ v3) S #[v0, v1, v2, v3] := by
  obtain ⟨l⟩ := c
  match l, hc with
  | [a0, a1, a2, a3], _ =>
    have := (((h.store v0 (i := 0) (by simp)).store v1 (i := 1) (by simp)).store v2 (i := 2) (by simp)).store v3 (i := 3) (by simp)
    simpa using this

/-- A view is handed back. -/
def ViewEnd (g : G) (w : World) (e : Ending) (w' : World) : Prop :=
  Below w.heap.size w w' ∧ ((faultOf g ≠ 0 ∧ e = .returned (.tuple #[.agg #[.int .i64 0, .int .i64 0, .int .i64 0, .slice none 0 0], errV (faultOf g)])) ∨
    (faultOf g = 0 ∧ ∃ a c ys, e = .returned (.tuple #[.agg #[.int .i64 g.tick, .int .i64 g.g0, .int .i64 g.g1, .slice a g.us.length c], .nilIface]) ∧ ys.length = g.us.length ∧ ys.Perm (g.us.map (seenF g.us)) ∧ Go.Sort.SortedIn ltSn 0 ys.length ys.toArray ∧ SRow w'.heap.size w' a ys))

theorem SRow.kp {X : Nat → Prop} {B n c : Nat} {w w' : World} {a : Option Addr} {xs : List Sn} (h : SRow B w a xs) (k : Kp X w w') (hB : B ≤ w.heap.size) (hx : ∀ b, (Value.slice a n c).ownBlock = some b → ¬ X b) : SRow B w' a xs :=
  fun i hi => let ⟨b, o, h1, h2, h3⟩ := h i hi; ⟨b, o, h1, h2, fun j hj => (k.cell b _ (by omega) (hx b (by rw [h1]; rfl))).trans (h3 j hj)⟩

set_option maxHeartbeats 12800000 in
set_option maxRecDepth 100000 in
theorem view_any (g : G) (fa ua : Option Addr) (cf cu : Nat) (hnew : g.new = false) (hcf : g.free.length ≤ 9223372036854775807) (hcu : g.us.length ≤ 9223372036854775807) (w : World)
    (hf : Row w.heap.size w fa g.free.length (fun k => .int .i64 (g.free.getD k 0))) (hu : URow false w.heap.size w ua g.us) (hfit : ∀ n ∈ g.free, Fits64 n) :
    Calls Try.prog 27 #[.agg #[.int .i64 g.tick, .int .i64 g.g0, .int .i64 g.g1, .int .i64 g.next, .slice fa g.free.length cf, .slice ua g.us.length cu]] w (ViewEnd g w) := by
  obtain ⟨W, hW⟩ : ∃ W, (w.alloc (.cells #[.int .i64 g.tick, .int .i64 g.g0, .int .i64 g.g1, .int .i64 g.next, .slice fa g.free.length cf, .slice ua g.us.length cu] 26)).alloc (.cells #[.int .i64 0, .int .i64 0, .int .i64 0, .slice none 0 0] 61) = W := ⟨_, rfl⟩
  have hbW : Below w.heap.size w W := by rw [← hW]; exact ((Below.refl _ _).alloc (Nat.le_refl _) _).alloc (by simp) _
  have k1 : Blk W w.heap.size #[.int .i64 g.tick, .int .i64 g.g0, .int .i64 g.g1, .int .i64 g.next, .slice fa g.free.length cf, .slice ua g.us.length cu] := by rw [← hW]; exact (Blk.new w _ _).alloc _
  have k2 : Blk W (w.heap.size + 1) #[.int .i64 0, .int .i64 0, .int .i64 0, .slice none 0 0] := by
    rw [← hW]
    have := Blk.new (w.alloc (.cells #[.int .i64 g.tick, .int .i64 g.g0, .int .i64 g.g1, .int .i64 g.next, .slice fa g.free.length cf, .slice ua g.us.length cu] 26)) #[.int .i64 0, .int .i64 0, .int .i64 0, .slice none 0 0] 61
    simpa using this
  have hszW := hbW.size
  have HF := Lib.hid ((hf.below hbW).mono hszW)
  have HU := Lib.hid hu
  have HUW := Lib.hid ((hu.below hbW).mono hszW)
  have HFIT := Lib.hid hfit
  have HNEW := Lib.hid hnew
  have HW := Lib.hid hbW
  have K1 := Lib.hid k1
  have K2 := Lib.hid k2
  obtain ⟨l1, c1, -⟩ := id k1
  clear hf hu hfit hnew hbW k1 k2
  go_enter Try.func27, Try.ntmps27
  go_wp2_with fail
  refine (check_any g fa ua g.free.length cf g.us.length cu HNEW.out rfl rfl hcf hcu _ HF.out HUW.out HFIT.out).mono ?_
  rintro e w1 ⟨rfl, b1⟩
  have HB1 : Hid (Below w.heap.size w w1) := Lib.hid (HW.out.trans (b1.mono hszW))
  have k11 := K1.out.call b1
  have k21 := K2.out.call b1
  obtain ⟨l11, c11, -⟩ := id k11
  obtain ⟨l21, c21, f21⟩ := id k21
  have K11 := Lib.hid k11
  have K21 := Lib.hid k21
  have hs1 := HB1.out.size
  clear b1 k11 k21 c1 l1 hW
  by_cases hfault : faultOf g = 0
  case neg =>
    rw [errV_pos _ hfault]
    have HFA := Lib.hid hfault
    clear hfault
    go_wp2_with fail
    refine bodyPost_ret (v := .tuple #[.agg #[.int .i64 0, .int .i64 0, .int .i64 0, .slice none 0 0], .iface 112 (.int .i64 (faultOf g : Nat))]) (ret_pair Try.results27 rfl rfl (K21.out.store4 rfl (.int .i64 0) (.int .i64 0) (.int .i64 0) (.slice none 0 0)) Try.underlying61 rfl infoView) rfl ?_
    refine ⟨?_, Or.inl ⟨HFA.out, by rw [errV_pos _ HFA.out]⟩⟩
    iterate 4 (refine Below.setCell ?_ (by simp) _)
    exact HB1.out
  rw [hfault, errV_zero]
  have HFA := Lib.hid hfault
  have hg := (right_iff g).1 hfault
  have HG := Lib.hid hg
  have hfew := hg.few
  clear hfault hg
  have m0 := MapOf.new (P := Try.prog) (k := 3) (emb := Value.int .i64) (ok := fun a => (Lit.int .i64 a).wf = true) w1
  obtain ⟨y1, r1, m1, t1⟩ := m0.put (intKeys (by kernel_rfl)) (t := 137) (e := 22) (by kernel_rfl) (by unfold maxLen; omega) 0 (by decide) (.agg #[.int .i64 (-1), .int .i64 (-1)])
  have hby : Below w1.heap.size w1 y1 := Below.turned ((Below.refl w1.heap.size w1).alloc (Nat.le_refl _) (.map #[] 0)) t1 (Nat.le_refl _)
  have hmm := @run_makeMap Try.prog
  have m1' : IM y1 w1.heap.size 1 1 (fun id => (placesF (g.us.take 0) id).map pairV) := m1.fn (fun id => by unfold placesF; simp; split <;> rfl) rfl
  have HBY := Lib.hid hby
  have M1 := Lib.hid m1'
  have K1Y := Lib.hid (K11.out.call hby)
  have K2Y := Lib.hid (K21.out.call hby)
  have hsy := hby.size
  obtain ⟨l1y, c1y, -⟩ := id K1Y.out
  have hn0 : (0 : Int) ≤ (g.us.length : Int) := by omega
  clear m0 m1 t1 hby m1' f21 c21
  go_wp2_with fail
  go_loopw [24] (fun a wr => ∃ k : Nat, a = .int .i64 k ∧ k ≤ g.us.length ∧ (Kp (fun b => b = w1.heap.size) y1 wr ∧ ∃ n1 s1, n1 ≤ k + 1 ∧ IM wr w1.heap.size n1 s1 (fun id => (placesF (g.us.take k) id).map pairV))) (fun a _ => (g.us.length - intOf a).toNat)
  case atStart => exact ⟨0, rfl, by omega, Kp.refl _ _, 1, 1, by omega, M1.out⟩
  case round =>
    obtain ⟨k, rfl, hk, hX⟩ := hrel
    have HX := Lib.hid hX
    clear hX
    by_cases hlt : k < g.us.length
    · obtain ⟨u, hu⟩ : ∃ u, g.us.getD k zeroU = u := ⟨_, rfl⟩
      have hum : u ∈ g.us := by rw [← hu, getD_lt hlt]; exact List.getElem_mem hlt
      obtain ⟨kpr, n1, s1, hn1, hm1⟩ := HX.out
      have hszr := kpr.size
      obtain ⟨b, o, hua, hbB, q0, q1, q2, q3, q4, q5, q6, q7, q8, q9⟩ := (HU.out.below (HB1.out.trans (HBY.out.mono hs1))).getE k hlt u hu
      subst hua
      have hc := fun (j : Nat) => kpr.cell b j (by omega) (by omega)
      rw [← hc] at q0 q1 q2 q3 q4 q5 q6 q7 q8 q9
      have hbr : b < wr.heap.size := by omega
      have ho := HG.out.ok hum
      have hwf : (Lit.int .i64 u.id).wf = true := by
        have h1 := ho.idT
        have h2 := ho.id1
        rw [HNEW.out] at h1
        exact wf_int (by have : topOf false = 200 := rfl; omega)
      have hbA : Below wr.heap.size wr (wr.alloc (.cells #[.int .i64 u.id, .int .i64 u.owner, .int .i64 u.kind, .int .i64 u.x, .int .i64 u.y, .int .i64 u.hp, .int .i64 u.does, .int .i64 u.gx, .int .i64 u.gy, .int .i64 u.target] 83)) := (Below.refl _ _).alloc (Nat.le_refl _) _
      obtain ⟨y, ry, my, ty⟩ := (hm1.call hbA).put (intKeys (by kernel_rfl)) (t := 137) (e := 22) (by kernel_rfl) (by unfold maxLen; omega) u.id hwf (pairV (u.x, u.y))
      have kpy := (kpr.then_ hbA).trans ((Kp.turned ty).imp (Y := fun c => c = w1.heap.size) (fun c _ hc => hc)) (fun _ _ h => h)
      have hki : (0 : Int) ≤ (k : Int) := by omega
      have hkl : (k : Int) < (g.us.length : Int) := by omega
      unfold pairV at ry
      have HU' := Lib.hid hu
      have MY := Lib.hid my
      have KPY := Lib.hid kpy
      clear hu hum kpr hm1 hc hwf hbA my ty kpy ho
      go_wp2_with fail
      go_roundw
      case rel =>
        refine ⟨k + 1, by go_num, by omega, KPY.out, n1 + 1, _, by omega, MY.out.fn (fun id => ?_) rfl⟩
        rw [places_succ g.us k hlt u HU'.out]
        split <;> rfl
      case measure => simp [intOf]; omega
    · obtain rfl : k = g.us.length := by omega
      obtain ⟨kpr, n1, s1, hn1, hm1⟩ := HX.out
      rw [List.take_length] at hm1
      have hszr := kpr.size
      have kb : Below w1.heap.size w1 wr := HBY.out.trans (kpr.below (fun b hb => (by have h8 : b = w1.heap.size := hb; omega)) hsy)
      have nB : w.heap.size + 2 ≤ w1.heap.size := by have := K21.out.lt; omega
      have kb1 := K1Y.out.kp kpr (by omega)
      have kb2 := K2Y.out.kp kpr (by omega)
      obtain ⟨l1r, c1r, -⟩ := id kb1
      have KB := Lib.hid kb
      have KB1 := Lib.hid kb1
      have KB2 := Lib.hid kb2
      have HM1 := Lib.hid hm1
      clear kpr hm1 HX hlt kb kb1 kb2 r1 hmm c1y
      go_upto_region 11 with fail
      obtain ⟨pS, hpS⟩ : ∃ n, wr.heap.size = n := ⟨_, rfl⟩
      rw [hpS]
      have hMS := HM1.out.lt
      have hbx : Below wr.heap.size wr (wr.alloc (.cells #[.int .i64 g.tick, .int .i64 g.g0, .int .i64 g.g1, .slice none 0 0] 61)) := (Below.refl _ _).alloc (Nat.le_refl _) _
      have HBX := Lib.hid hbx
      refine gen_world (fun V => Blk V pS #[.int .i64 g.tick, .int .i64 g.g0, .int .i64 g.g1, .slice none 0 0] ∧ Below w1.heap.size w1 V ∧ IM V w1.heap.size n1 s1 (fun id => (placesF g.us id).map pairV) ∧ Blk V w.heap.size #[.int .i64 g.tick, .int .i64 g.g0, .int .i64 g.g1, .int .i64 g.next, .slice fa g.free.length cf, .slice ua g.us.length cu] ∧ Blk V (w.heap.size + 1) #[.int .i64 0, .int .i64 0, .int .i64 0, .slice none 0 0]) ⟨by rw [← hpS]; exact Blk.new wr _ _, KB.out.trans (HBX.out.mono (by omega)), HM1.out.call HBX.out, KB1.out.call HBX.out, KB2.out.call HBX.out⟩ ?_
      rintro V ⟨kS, bV, mV, k1V, k2V⟩
      have hMV : w1.heap.size < pS := by omega
      have hSV := kS.lt
      obtain ⟨l1V, c1V, -⟩ := id k1V
      have KS := Lib.hid kS
      have BV := Lib.hid bV
      have MV := Lib.hid mV
      have K2V := Lib.hid k2V
      have hBV : Below w.heap.size w V := HB1.out.trans (bV.mono hs1)
      have HBV := Lib.hid hBV
      have HUV := Lib.hid (HU.out.below hBV)
      clear kS bV mV k1V k2V hbx HBX KB KB1 KB2 HM1 c1r hBV
      go_wp2_with fail
      go_loopw [45] (fun a wz => ∃ k : Nat, a = .int .i64 k ∧ k ≤ g.us.length ∧ ((∃ av, Blk wz pS #[.int .i64 g.tick, .int .i64 g.g0, .int .i64 g.g1, av] ∧ wz.ownsRow V.heap.size 136 10 av k (seenAll ((g.us.take k).map (seenF g.us)))) ∧ Kp (fun b => b = pS) V wz)) (fun a _ => (g.us.length - intOf a).toNat)
      case atStart => exact ⟨0, rfl, by omega, ⟨.slice none 0 0, KS.out, World.ownsRow_nil _ _ _ _⟩, Kp.refl _ _⟩
      case round =>
        obtain ⟨k, rfl, hk, hY⟩ := hrel
        have HY := Lib.hid hY
        clear hY
        by_cases hlt : k < g.us.length
        · obtain ⟨u, hu⟩ : ∃ u, g.us.getD k zeroU = u := ⟨_, rfl⟩
          have hum : u ∈ g.us := by rw [← hu, getD_lt hlt]; exact List.getElem_mem hlt
          obtain ⟨⟨av, kSr, own⟩, kpr⟩ := HY.out
          have hszr := kpr.size
          obtain ⟨b, o, hua, hbB, q0, q1, q2, q3, q4, q5, q6, q7, q8, q9⟩ := HUV.out.getE k hlt u hu
          subst hua
          have hc := fun (j : Nat) => kpr.cell b j (by omega) (by omega)
          rw [← hc] at q0 q1 q2 q3 q4 q5 q6 q7 q8 q9
          have hbr : b < wr.heap.size := by omega
          have ho := HG.out.ok hum
          have hwf : (Lit.int .i64 u.target).wf = true := by
            have h1 := ho.tgtT
            have h2 := ho.tgt0
            rw [HNEW.out] at h1
            exact wf_int (by have : topOf false = 200 := rfl; omega)
          obtain ⟨V1, hV1⟩ : ∃ V1, wr.alloc (.cells #[.int .i64 u.id, .int .i64 u.owner, .int .i64 u.kind, .int .i64 u.x, .int .i64 u.y, .int .i64 u.hp, .int .i64 u.does, .int .i64 u.gx, .int .i64 u.gy, .int .i64 u.target] 83) = V1 := ⟨_, rfl⟩
          have hb1 : Below wr.heap.size wr V1 := by rw [← hV1]; exact (Below.refl _ _).alloc (Nat.le_refl _) _
          have kE : Blk V1 wr.heap.size #[.int .i64 u.id, .int .i64 u.owner, .int .i64 u.kind, .int .i64 u.x, .int .i64 u.y, .int .i64 u.hp, .int .i64 u.does, .int .i64 u.gx, .int .i64 u.gy, .int .i64 u.target] := by rw [← hV1]; exact Blk.new wr _ _
          have mr := ((MV.out.kp kpr (by omega)).call hb1).get (intKeys (by kernel_rfl)) (t := 137) (e := 22) (by kernel_rfl) (z := .agg #[.int .i64 0, .int .i64 0]) (by kernel_rfl) u.target hwf
          obtain ⟨p, hp⟩ : ∃ p, ((placesF g.us u.target).getD (0, 0)).1 = p := ⟨_, rfl⟩
          obtain ⟨q, hq⟩ : ∃ q, ((placesF g.us u.target).getD (0, 0)).2 = q := ⟨_, rfl⟩
          have hv : ((placesF g.us u.target).map pairV).getD (.agg #[.int .i64 0, .int .i64 0]) = .agg #[.int .i64 p, .int .i64 q] := by
            rw [← hp, ← hq]
            cases placesF g.us u.target <;> rfl
          rw [hv] at mr
          have hki : (0 : Int) ≤ (k : Int) := by omega
          have hkl : (k : Int) < (g.us.length : Int) := by omega
          obtain ⟨lE, cE, -⟩ := id kE
          have HU' := Lib.hid hu
          have KSR := Lib.hid kSr
          have OWN := Lib.hid own
          have KPR := Lib.hid kpr
          have HB' := Lib.hid hb1
          have KE := Lib.hid kE
          have HP := Lib.hid hp
          have HQ := Lib.hid hq
          clear hu hum kSr own kpr hc hwf hb1 kE hp hq hv ho HY
          go_upto_region 15 with fail
          obtain ⟨V2, hV2⟩ : ∃ V2, V1.alloc (.cells #[.int .i64 p, .int .i64 q] 22) = V2 := ⟨_, rfl⟩
          have hb2 : Below V1.heap.size V1 V2 := by rw [← hV2]; exact (Below.refl _ _).alloc (Nat.le_refl _) _
          have kT : Blk V2 V1.heap.size #[.int .i64 p, .int .i64 q] := by rw [← hV2]; exact Blk.new V1 _ _
          rw [hV2]
          have hb12 : Below wr.heap.size wr V2 := HB'.out.trans (hb2.mono HB'.out.size)
          have own2 := own_kp OWN.out (kp_of hb12 (fun _ => False)) (fun _ _ x => x)
          obtain ⟨ava, avc, rfl⟩ := own_slice own2
          have kS2 := KSR.out.call hb12
          have kE2 := KE.out.call hb2
          obtain ⟨lS2, cS2, fS2⟩ := id kS2
          obtain ⟨lE2, cE2, -⟩ := id kE2
          obtain ⟨lT2, cT2, -⟩ := id kT
          obtain ⟨i1, hj0, hj1, hj2, hj3⟩ := infoSeen
          have hbVb : Below V2.heap.size V2 (V2.alloc (.cells #[.int .i64 u.x, .int .i64 u.y, .int .i64 u.owner, .int .i64 u.kind, .int .i64 u.hp, .int .i64 u.does, .int .i64 u.gx, .int .i64 u.gy, .int .i64 p, .int .i64 q] 136)) := (Below.refl _ _).alloc (Nat.le_refl _) _
          have hVs := hb12.size
          have oB := own_kp own2 (kp_of hbVb (fun _ => False)) (fun _ _ x => x)
          have hlen : ((g.us.take k).map (seenF g.us)).length = k := by rw [List.length_map, List.length_take]; omega
          obtain ⟨g2, cap, w5, r5, own5, grow5, hat5, lt5⟩ := run_append_lies (P := Try.prog) (V2.alloc (.cells #[.int .i64 u.x, .int .i64 u.y, .int .i64 u.owner, .int .i64 u.kind, .int .i64 u.hp, .int .i64 u.does, .int .i64 u.gx, .int .i64 u.gy, .int .i64 p, .int .i64 q] 136)) 59 59 V.heap.size 136 i1 _ 10 80 Try.underlying59 hj0 hj1 hj2 hj3 rfl (by omega) (.slice ava k avc) k (seenAll ((g.us.take k).map (seenF g.us))) oB ⟨V2.heap.size, 0, none⟩ 1 1 (encSn ⟨u.x, u.y, u.owner, u.kind, u.hp, u.does, u.gx, u.gy, p, q⟩) rfl (World.news_of_block (cs := #[.int .i64 u.x, .int .i64 u.y, .int .i64 u.owner, .int .i64 u.kind, .int .i64 u.hp, .int .i64 u.does, .int .i64 u.gx, .int .i64 u.gy, .int .i64 p, .int .i64 q]) (t := 136) (fr := (0, 0)) (heap_alloc_new V2 _)) (encSn_one _) (by omega) (by unfold maxLen; omega) (by omega) (by have := hbVb.size; omega) (V2.heap.size + 1) (by simp)
          have avB : ∀ b, (Value.slice ava k avc).ownBlock = some b → V.heap.size ≤ b := fun b hb => (World.ownsRow.lt OWN.out b hb).1
          have kg := Kp.grown grow5
          have kbb := kS2.call hbVb
          have kS5 := kbb.kp kg (fun e => by have := avB pS e.symm; omega)
          obtain ⟨lS5, cS5, fS5⟩ := id kS5
          have HB12 := Lib.hid hb12
          have HBVB := Lib.hid hbVb
          have OWN5 := Lib.hid own5
          have KG := Lib.hid kg
          have KS5 := Lib.hid kS5
          have AVB := Lib.hid avB
          clear hj0 hj1 hj2 hj3 hbVb oB own5 grow5 hat5 kg kbb kS5 own2 kS2 kE2 kT hb12 hb2 avB mr q0 q1 q2 q3 q4 q5 q6 q7 q8 q9 lE cE
          go_wp2_with (at_builtin; refine list_run_append (by rfl) _ _ _ _ (by rfl) (by rfl) (by rfl) (by rfl) r5 ?_)
          go_roundw
          case rel =>
            have kp5 := ((((KPR.out.then_ HB12.out).then_ HBVB.out).trans KG.out (fun c hc e => absurd (AVB.out c e.symm) (by have := KPR.out.size; omega)))).andset ⟨pS, 3, none⟩ (.slice (some ⟨g2, 0, none⟩) (k + 1) cap) rfl
            refine ⟨k + 1, by go_num, by omega, ⟨.slice (some ⟨g2, 0, none⟩) (k + 1) cap, ?_, ?_⟩, kp5⟩
            · have := KS5.out.store (.slice (some ⟨g2, 0, none⟩) (k + 1) cap) (i := 3) (by simp)
              simpa using this
            · rw [seen_succ g.us k hlt u HU'.out, seenAll_append]
              have e : seenAll [seenF g.us u] = encSn ⟨u.x, u.y, u.owner, u.kind, u.hp, u.does, u.gx, u.gy, p, q⟩ := by
                unfold seenAll seenF
                rw [HP.out, HQ.out]
                simp
              rw [e]
              refine own_kp OWN5.out (Kp.setCell _ ⟨pS, 3, none⟩ _) (fun b hb e => ?_)
              have h1 := (World.ownsRow.lt OWN5.out b hb).1
              have h2 : b = pS := e
              omega
          case measure => simp [intOf]; omega
        · obtain rfl : k = g.us.length := by omega
          obtain ⟨⟨av, kSr, own⟩, kpr⟩ := HY.out
          rw [List.take_length] at own
          have hszr := kpr.size
          obtain ⟨lSr, cSr, -⟩ := id kSr
          have hln : (g.us.map (seenF g.us)).length = g.us.length := List.length_map ..
          have own' : wr.ownsRow V.heap.size 136 10 av (g.us.map (seenF g.us)).length (seenAll (g.us.map (seenF g.us))) := by rw [hln]; exact own
          have HSO := sorted_any V.heap.size av (g.us.map (seenF g.us)) (by omega) wr own'
          have HK2 := Lib.hid (K2V.out.kp kpr (by omega))
          have KPR := Lib.hid kpr
          have KSR := Lib.hid kSr
          have avB : ∀ b, av.ownBlock = some b → V.heap.size ≤ b := fun b hb => (World.ownsRow.lt own b hb).1
          have AVB := Lib.hid avB
          have HSO' := Lib.hid HSO
          clear kSr own kpr HY hln own' HSO avB hlt
          go_wp2_with fail
          refine (HSO'.out).mono ?_
          rintro e w5 ⟨a, c, ys, rfl, rfl, hyl, hperm, hsort, hrow, kp5⟩
          have kS5 := KSR.out.kp kp5 (fun e => by have := AVB.out pS e; omega)
          have k25 := HK2.out.kp kp5 (fun e => by have := AVB.out _ e; omega)
          have hb5 : Below w.heap.size w w5 := ((HB1.out.trans (BV.out.mono hs1)).trans (KPR.out.below (fun b hb => (by have h8 : b = pS := hb; omega)) (by omega))).trans (kp5.below (fun b hb => (by have := AVB.out b hb; omega)) (by omega))
          rw [List.length_map] at hyl kS5
          obtain ⟨lS5, cS5, fS5⟩ := id kS5
          obtain ⟨l25, c25, f25⟩ := id k25
          have hS2 : pS ≠ w.heap.size + 1 := by omega
          have k26 := k25.other (T := pS) (i := 3) (v := .slice a g.us.length c) hS2
          have HK26 := Lib.hid k26
          have HB5 := Lib.hid hb5
          have HPM := Lib.hid hperm
          have HSR := Lib.hid hsort
          have HYL := Lib.hid hyl
          have HRW := Lib.hid hrow
          have hHs : (g.us.map (seenF g.us)).length = g.us.length := List.length_map ..
          rw [hHs]
          clear hHs kS5 k25 hb5 hperm hsort hyl hrow k26 kp5
          go_wp2_with fail
          refine bodyPost_ret (v := .tuple #[.agg #[.int .i64 g.tick, .int .i64 g.g0, .int .i64 g.g1, .slice a g.us.length c], .nilIface]) (ret_pair Try.results27 rfl rfl (HK26.out.store4 rfl (.int .i64 g.tick) (.int .i64 g.g0) (.int .i64 g.g1) (.slice a g.us.length c)) Try.underlying61 rfl infoView) rfl ?_
          have XK := (((((Kp.refl (fun b => b = pS ∨ b = w.heap.size + 1) w5).andset ⟨pS, 3, none⟩ (.slice a g.us.length c) (Or.inl rfl)).andset ⟨w.heap.size + 1, 0, none⟩ (.int .i64 g.tick) (Or.inr rfl)).andset ⟨w.heap.size + 1, 1, none⟩ (.int .i64 g.g0) (Or.inr rfl)).andset ⟨w.heap.size + 1, 2, none⟩ (.int .i64 g.g1) (Or.inr rfl)).andset ⟨w.heap.size + 1, 3, none⟩ (.slice a g.us.length c) (Or.inr rfl)
          refine ⟨HB5.out.trans (XK.below (fun b hb => by omega) HB5.out.size), Or.inr ⟨HFA.out, a, c, ys, rfl, HYL.out, HPM.out, HSR.out, ?_⟩⟩
          refine (SRow.kp HRW.out XK (Nat.le_refl _) (n := (List.map (seenF g.us) g.us).length) (c := c) (fun b hb hx => ?_)).mono XK.size
          have h1 := AVB.out b hb
          omega
end Go.Proofs.Ytlfljlhppigejab
namespace Go.Proofs.Ytlfljlhppigejab
open Go.RowKit

end Go.Proofs.Ytlfljlhppigejab
