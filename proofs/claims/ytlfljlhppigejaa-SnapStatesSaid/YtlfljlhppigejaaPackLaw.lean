/-
  A state that is right: its bytes are read as itself. The walk of saves: a closed fact: a state is read. The law SnapStates: any states: their bytes, which are read.
-/
import Derived.Test.YtlfljlhppigejaaGotOnes
import Derived.Test.YtlfljlhppigejaaPackBack
import Derived.Test.YtlfljlhppigejaaPackPure
import Derived.Test.YtlfljlhppigejaaPackTop
import Derived.Test.YtlfljlhppigejaaWireRefA
import Derived.Test.YtlfljlhppigejaaTapeAll
namespace Go.Proofs.Ytlfljlhppigejaa
open Go.RowKit

theorem state_back (n : Bool) (g : G) (hn : g.new = n) (hf : n = true → g.free = []) (h : faultOf g = 0) :
    bytesOf n g = (frameL (kindB n) (outL (startN n g)), 0) ∧ stateF n (frameL (kindB n) (outL (startN n g))) = 0 ∧ startI n (openL (kindB n) (frameL (kindB n) (outL (startN n g)))) = (backG n g, ([], 0)) := by
  have hr := (right_iff g).1 h
  have hN := right_numbers n hr hn
  have hfree : g.free.length ≤ 200 := hr.unfree
  have hus : g.us.length ≤ 20 := hr.few
  have e := startI_wr n g hN (fun _ => hfree) hus []
  rw [List.append_nil] at e
  have ho : openL (kindB n) (frameL (kindB n) (outL (startN n g))) = (outL (startN n g), 0) := openL_frame _ _
  obtain ⟨L, hL⟩ : ∃ x, frameL (kindB n) (outL (startN n g)) = x := ⟨_, rfl⟩
  rw [hL] at ho ⊢
  obtain ⟨O, hO⟩ : ∃ x, outL (startN n g) = x := ⟨_, rfl⟩
  rw [hO] at ho e
  refine ⟨?_, ?_, ?_⟩
  · unfold bytesOf
    rw [if_neg (by omega), hL]
  · unfold stateF
    rw [ho, e]
    have h1 : endI (([], 0) : St) = 0 := rfl
    rw [h1, if_neg (by simp), fault_back n g hn hf, h]
  · rw [ho, e]
theorem state_bad (n : Bool) (g : G) (h : faultOf g ≠ 0) : bytesOf n g = ([], faultOf g) := by
  unfold bytesOf
  rw [if_pos h]
theorem right_few {g : G} (h : faultOf g = 0) : g.free.length ≤ 200 ∧ g.us.length ≤ 20 := ⟨((right_iff g).1 h).unfree, ((right_iff g).1 h).few⟩
theorem urow_backE {B : Nat} {w : World} {a : Option Addr} {us : List U} (h : URow false B w a us) : URow false B w a (us.map (backU false)) := fun i hi => by
  have hi' : i < us.length := by simpa using hi
  obtain ⟨b, o, h1, h2, h3⟩ := h i hi'
  refine ⟨b, o, h1, h2, fun j hj => ?_⟩
  rw [h3 j hj]
  simp [List.getD, hi', cellsOf, cellsE, backU]
theorem urow_backN {B : Nat} {w : World} {a : Option Addr} {us : List U} (h : URow true B w a us) : URow true B w a (us.map (backU true)) := by
  have e : us.map (backU true) = us := by
    have : backU true = id := by funext u; simp [backU]
    rw [this, List.map_id]
  rw [e]
  exact h

end Go.Proofs.Ytlfljlhppigejaa
namespace Go.Proofs.Ytlfljlhppigejaa
open Go.RowKit

def savedG : G := ⟨false, 0, 0, 0, 1, [], []⟩
theorem saved_numbers : elderN savedG = [0, 0, 0, 1, 0, 0] := rfl
theorem saved_fault : faultOf savedG = 0 := by decide +kernel
theorem saved_bytes : bytesOf false savedG = (frameL 69 (outL [0, 0, 0, 1, 0, 0]), 0) := by
  unfold bytesOf
  rw [if_neg (by rw [saved_fault]; simp), ← saved_numbers]
  rfl
theorem saved_open : elderI (openL 69 (frameL 69 (outL [0, 0, 0, 1, 0, 0]))) = (savedG, ([], 0)) := by
  rw [openL_frame, ← saved_numbers]
  have h := elderI_wr savedG (by
    rw [saved_numbers]
    intro n hn
    simp at hn
    exact ⟨by omega, by omega⟩) (by decide) (by decide) []
  rw [List.append_nil] at h
  rw [h]
  rfl
theorem saved_ok : stateF false (frameL 69 (outL [0, 0, 0, 1, 0, 0])) = 0 := by
  have e : startI false (openL (kindB false) (frameL 69 (outL [0, 0, 0, 1, 0, 0]))) = (savedG, ([], 0)) := saved_open
  unfold stateF
  rw [e]
  dsimp only
  rw [saved_fault]
  rfl
theorem saved_got : gotE (frameL 69 (outL [0, 0, 0, 1, 0, 0])) = savedG := by
  unfold gotE
  rw [if_pos saved_ok, saved_open]
theorem saved_long : 8 < (frameL 69 (outL [0, 0, 0, 1, 0, 0])).length := by
  rw [frameL_length]
  have h : outL [0, 0, 0, 1, 0, 0] ≠ [] := outL_ne 0 _ (by omega)
  have := List.length_pos_iff.2 h
  omega
theorem fits1 : Fits64 1 := ⟨by omega, by omega⟩

set_option maxHeartbeats 3200000 in
set_option maxRecDepth 100000 in
theorem saves_any (w : World) : Calls Try.prog 64 #[] w (TrueBelow w) := by
  obtain ⟨L, hL⟩ : ∃ x, frameL 69 (outL [0, 0, 0, 1, 0, 0]) = x := ⟨_, rfl⟩
  have hlong := saved_long
  have hgot := saved_got
  have hok := saved_ok
  have hby := saved_bytes
  rw [hL] at hlong hgot hok hby
  have hl300 : L.length ≤ 1000 := by
    rw [← hL, frameL_length]
    have := outL_length [0, 0, 0, 1, 0, 0]
    simp at this
    omega
  have HE := Lib.hid (fun w => elderof_one (bstr L) (by rw [bstr_size]; omega) L (bstr_list L) w)
  have HBY := Lib.hid hby
  have hds : decide ((8 : Int) < ((bstr L).size : Int)) = true := decide_eq_true (by rw [bstr_size]; omega)
  obtain ⟨ONE, hONE⟩ : ∃ x, bstr L = x := ⟨_, rfl⟩
  rw [hONE] at HE hds
  rw [hok, hgot] at HE
  have HONE := Lib.hid hONE
  clear hL hlong hgot hok hby hl300 hONE
  go_enter Try.func64, Try.ntmps64
  go_wp2_with fail
  refine (elderbytes_any savedG none none 0 0 rfl (by decide) (by decide) _ (fun k hk => (by simp [savedG] at hk)) (fun k hk => (by simp [savedG] at hk)) ⟨fits0, fits0, fits0, fits1, fun n hn => (by simp [savedG] at hn), fun u hu => (by simp [savedG] at hu)⟩).mono ?_
  rintro e w1 ⟨rfl, b1⟩
  rw [HBY.out, errV_zero]
  dsimp only
  rw [HONE.out]
  have HB1 := Lib.hid b1
  clear b1
  go_wp2_with fail
  refine (HE.out _).mono ?_
  rintro e w2 ⟨fa, cf, ua, cu, rfl, -, -, b2⟩
  rw [errV_zero]
  have HB2 := Lib.hid (HB1.out.trans (b2.mono HB1.out.size))
  have hs2 := HB2.out.size
  clear b2
  dsimp only [savedG]
  go_wp2_with fail
  refine (same_nil 0 _).mono ?_
  rintro e w3 ⟨rfl, rfl⟩
  go_wp2_with fail
  refine (same_nil 0 _).mono ?_
  rintro e w3 ⟨rfl, rfl⟩
  go_wp2_with fail
  go_ret
  exact tb rfl (HB2.out.alloc hs2 _)
end Go.Proofs.Ytlfljlhppigejaa
namespace Go.Proofs.Ytlfljlhppigejaa
open Go.RowKit

/-- The law's own memory: both states as they were handed in. -/
structure Hold (w x : World) (g h : G) (fa ua va : Option Addr) (cf cu cv : Nat) : Prop where
  bel : Below w.heap.size w x
  kE : Blk x w.heap.size #[.int .i64 g.tick, .int .i64 g.g0, .int .i64 g.g1, .int .i64 g.next, .slice fa g.free.length cf, .slice ua g.us.length cu]
  kN : Blk x (w.heap.size + 1) #[.int .i64 h.tick, .int .i64 h.g0, .int .i64 h.g1, .int .i64 h.next, .slice va h.us.length cv]
  rf : Row x.heap.size x fa g.free.length (fun k => .int .i64 (g.free.getD k 0))
  ru : URow false x.heap.size x ua g.us
  rv : URow true x.heap.size x va h.us
theorem Hold.call {w x y : World} {g h : G} {fa ua va : Option Addr} {cf cu cv : Nat} (H : Hold w x g h fa ua va cf cu cv) (hb : Below x.heap.size x y) : Hold w y g h fa ua va cf cu cv :=
  ⟨H.bel.trans (hb.mono H.bel.size), H.kE.call hb, H.kN.call hb, (H.rf.below hb).mono hb.size, (H.ru.below hb).mono hb.size, (H.rv.below hb).mono hb.size⟩
theorem framed_E (s : ByteArray) (hs : s.size ≤ 900000) (w : World) : Calls Try.prog 38 #[.int .u8 69, .string s] w fun e w' => e = .returned (.string (bstr (frameL 69 s.data.toList))) ∧ Below w.heap.size w w' := framed_any 69 s hs w
theorem framed_N (s : ByteArray) (hs : s.size ≤ 900000) (w : World) : Calls Try.prog 38 #[.int .u8 78, .string s] w fun e w' => e = .returned (.string (bstr (frameL 78 s.data.toList))) ∧ Below w.heap.size w w' := framed_any 78 s hs w
theorem bstr_nil : bstr [] = ⟨#[]⟩ := rfl
theorem sameelder_n (t g0 g1 nx : Int) (us : List U) (n : Nat) (hn : us.length = n) (a b : Option Addr) (ca cb : Nat) (hl : n ≤ 100000) (fr : List Int) (fa fb : Option Addr) (cfa cfb : Nat) (hfl : fr.length ≤ 100000) (w : World) (ha : URow false w.heap.size w a us) (hb : URow false w.heap.size w b us) (hfa : Row w.heap.size w fa fr.length (fun k => .int .i64 (fr.getD k 0))) (hfb : Row w.heap.size w fb fr.length (fun k => .int .i64 (fr.getD k 0))) :
    Calls Try.prog 60 #[.agg #[.int .i64 t, .int .i64 g0, .int .i64 g1, .int .i64 nx, .slice fa fr.length cfa, .slice a n ca], .agg #[.int .i64 t, .int .i64 g0, .int .i64 g1, .int .i64 nx, .slice fb fr.length cfb, .slice b n cb]] w fun e w' => e = .returned (.bool true) ∧ Below w.heap.size w w' := by
  subst hn
  exact sameelder_any t g0 g1 nx us a b ca cb hl fr fa fb cfa cfb hfl w ha hb hfa hfb
theorem samenewer_n (t g0 g1 nx : Int) (us : List U) (n : Nat) (hn : us.length = n) (a b : Option Addr) (ca cb : Nat) (hl : n ≤ 100000) (w : World) (ha : URow true w.heap.size w a us) (hb : URow true w.heap.size w b us) :
    Calls Try.prog 49 #[.agg #[.int .i64 t, .int .i64 g0, .int .i64 g1, .int .i64 nx, .slice a n ca], .agg #[.int .i64 t, .int .i64 g0, .int .i64 g1, .int .i64 nx, .slice b n cb]] w fun e w' => e = .returned (.bool true) ∧ Below w.heap.size w w' := by
  subst hn
  exact samenewer_any t g0 g1 nx us a b ca cb hl w ha hb
/-- A state that was written is read. -/
theorem elderof_back (g : G) (s : ByteArray) (hs : s.size ≤ 900000) (l : List UInt8) (hl : s.data.toList = l) (hg : gotE l = backG false g) (h0 : stateF false l = 0) (w : World) : Calls Try.prog 66 #[.string s] w fun e w' => ∃ fa cf ua cu,
    e = .returned (.tuple #[.agg #[.int .i64 g.tick, .int .i64 g.g0, .int .i64 g.g1, .int .i64 g.next, .slice fa g.free.length cf, .slice ua g.us.length cu], errV 0]) ∧ Row w'.heap.size w' fa g.free.length (fun k => .int .i64 (g.free.getD k 0)) ∧ URow false w'.heap.size w' ua (g.us.map (backU false)) ∧ Below w.heap.size w w' := by
  refine (elderof_one s hs l hl w).mono ?_
  rintro e w' ⟨fa, cf, ua, cu, h1, h2, h3, h4⟩
  rw [hg] at h1 h2 h3
  rw [h0] at h1
  have e1 : (backG false g).us.length = g.us.length := by simp [backG]
  rw [e1] at h1
  exact ⟨fa, cf, ua, cu, h1, h2, h3, h4⟩
theorem newerof_back (g : G) (s : ByteArray) (hs : s.size ≤ 900000) (l : List UInt8) (hl : s.data.toList = l) (hg : gotN l = backG true g) (h0 : stateF true l = 0) (w : World) : Calls Try.prog 69 #[.string s] w fun e w' => ∃ ua cu,
    e = .returned (.tuple #[.agg #[.int .i64 g.tick, .int .i64 g.g0, .int .i64 g.g1, .int .i64 g.next, .slice ua g.us.length cu], errV 0]) ∧ URow true w'.heap.size w' ua (g.us.map (backU true)) ∧ Below w.heap.size w w' := by
  refine (newerof_one s hs l hl w).mono ?_
  rintro e w' ⟨ua, cu, h1, h3, h4⟩
  rw [hg] at h1 h3
  rw [h0] at h1
  have e1 : (backG true g).us.length = g.us.length := by simp [backG]
  rw [e1] at h1
  exact ⟨ua, cu, h1, h3, h4⟩

set_option maxHeartbeats 12800000 in
set_option maxRecDepth 100000 in
theorem snapstates_law (g h : G) (fa ua va : Option Addr) (cf cu cv : Nat) (hgn : g.new = false) (hhn : h.new = true) (hhf : h.free = []) (hgfit : g.Fits) (hhfit : h.Fits)
    (w : World) (hrf : Row w.heap.size w fa g.free.length (fun k => .int .i64 (g.free.getD k 0))) (hru : URow false w.heap.size w ua g.us) (hrv : URow true w.heap.size w va h.us) :
    Calls Try.prog 10 #[.agg #[.int .i64 g.tick, .int .i64 g.g0, .int .i64 g.g1, .int .i64 g.next, .slice fa g.free.length cf, .slice ua g.us.length cu], .agg #[.int .i64 h.tick, .int .i64 h.g0, .int .i64 h.g1, .int .i64 h.next, .slice va h.us.length cv]] w (TrueBelow w) := by
  obtain ⟨W, hW⟩ : ∃ W, (w.alloc (.cells #[.int .i64 g.tick, .int .i64 g.g0, .int .i64 g.g1, .int .i64 g.next, .slice fa g.free.length cf, .slice ua g.us.length cu] 90)).alloc (.cells #[.int .i64 h.tick, .int .i64 h.g0, .int .i64 h.g1, .int .i64 h.next, .slice va h.us.length cv] 65) = W := ⟨_, rfl⟩
  have hbW : Below w.heap.size w W := by rw [← hW]; exact ((Below.refl _ _).alloc (Nat.le_refl _) _).alloc (by simp) _
  have k1 : Blk W w.heap.size #[.int .i64 g.tick, .int .i64 g.g0, .int .i64 g.g1, .int .i64 g.next, .slice fa g.free.length cf, .slice ua g.us.length cu] := by rw [← hW]; exact (Blk.new w _ _).alloc _
  have k2 : Blk W (w.heap.size + 1) #[.int .i64 h.tick, .int .i64 h.g0, .int .i64 h.g1, .int .i64 h.next, .slice va h.us.length cv] := by
    rw [← hW]
    have := Blk.new (w.alloc (.cells #[.int .i64 g.tick, .int .i64 g.g0, .int .i64 g.g1, .int .i64 g.next, .slice fa g.free.length cf, .slice ua g.us.length cu] 90)) #[.int .i64 h.tick, .int .i64 h.g0, .int .i64 h.g1, .int .i64 h.next, .slice va h.us.length cv] 65
    simpa using this
  have M0 := Lib.hid (⟨hbW, k1, k2, (hrf.below hbW).mono hbW.size, (hru.below hbW).mono hbW.size, (hrv.below hbW).mono hbW.size⟩ : Hold w W g h fa ua va cf cu cv)
  clear hbW k1 k2 hrf hru hrv
  go_enter Try.func10, Try.ntmps10
  go_upto_region 1 with fail
  try rw [hW]
  clear hW
  go_wp2_with fail
  refine (saves_any _).mono ?_
  rintro e x1 ⟨rfl, b1⟩
  have M1 := Lib.hid (M0.out.call b1)
  have cE := M1.out.kE.cell
  have lE := M1.out.kE.lt
  have cN := M1.out.kN.cell
  have lN := M1.out.kN.lt
  clear b1
  have HGF := Lib.hid hgfit
  have HHF := Lib.hid hhfit
  clear hgfit hhfit
  have dd0 : ((0 : Nat) == 0) = true := rfl
  go_wp2_with fail
  refine (lightelder_any g fa ua cf cu _).mono ?_
  rintro e x2 ⟨LB, rfl, hLB, bx⟩
  have M2 := Lib.hid (M1.out.call bx)
  clear cE lE cN lN
  have cE := M2.out.kE.cell
  have lE := M2.out.kE.lt
  have cN := M2.out.kN.cell
  have lN := M2.out.kN.lt
  clear bx
  by_cases hl : g.us.length ≤ 25 ∧ g.free.length ≤ 220
  case neg =>
    obtain rfl : LB = false := by cases LB; rfl; exact absurd (hLB.1 rfl) hl
    clear hLB hl
    go_wp2_with fail
    go_ret
    exact ⟨rfl, M2.out.bel⟩
  obtain rfl : LB = true := hLB.2 hl
  clear hLB
  obtain ⟨hl1, hl2⟩ := hl
  by_cases hv : h.us.length ≤ 25
  case neg =>
    have dv : decide ((25 : Int) < (h.us.length : Int)) = true := decide_eq_true (by omega)
    clear hv
    go_wp2_with fail
    go_ret
    exact ⟨rfl, M2.out.bel⟩
  have dv : decide ((25 : Int) < (h.us.length : Int)) = false := decide_eq_false (by omega)
  by_cases hE0 : faultOf g = 0
  · by_cases hN0 : faultOf h = 0
    · obtain ⟨fE, hfE⟩ : ∃ x, faultOf g = x := ⟨_, rfl⟩
      have HFBLE := Lib.hid ((fault_back false g hgn (fun e => (by cases e))).trans hfE)
      have ddfE : (fE == fE) = true := by simp
      obtain ⟨sb1, sb2, sb3⟩ := state_back false g hgn (fun e => (by cases e)) hE0
      have fewg := right_few hE0
      have nn := right_numbers false ((right_iff g).1 hE0) hgn
      have HNNLE := Lib.hid (show ∀ n ∈ elderN g, Nn n from nn)
      have lenLE : (outL (elderN g)).length ≤ 5000 := by
        have h1 := outL_length (elderN g)
        rw [elderN_length] at h1
        omega
      have sb1' : bytesOf false g = (frameL 69 (outL (elderN g)), 0) := sb1
      have sb2' : stateF false (frameL 69 (outL (elderN g))) = 0 := sb2
      have sb4 : gotE (frameL 69 (outL (elderN g))) = backG false g := by
        unfold gotE
        rw [if_pos sb2']
        exact congrArg Prod.fst sb3
      obtain ⟨TXLE, hTX⟩ : ∃ x, bstr (outL (elderN g)) = x := ⟨_, rfl⟩
      have zTXLE : TXLE.size ≤ 5000 := by rw [← hTX, bstr_size]; exact lenLE
      have hTXl : TXLE.data.toList = outL (elderN g) := by rw [← hTX, bstr_list]
      obtain ⟨LE, hLE⟩ : ∃ x, frameL 69 (outL (elderN g)) = x := ⟨_, rfl⟩
      have zLE : LE.length ≤ 6000 := by rw [← hLE, frameL_length]; omega
      obtain ⟨SE, hSE⟩ : ∃ x, bstr LE = x := ⟨_, rfl⟩
      have HSE := Lib.hid hSE
      have hFR : bstr (frameL 69 TXLE.data.toList) = SE := by rw [hTXl, hLE, hSE]
      have HFRLE := Lib.hid hFR
      have HTXLE := Lib.hid hTX
      rw [hLE] at sb1' sb2' sb4
      have HONELE := Lib.hid (fun w => elderof_back g SE (by rw [← hSE, bstr_size]; omega) LE (by rw [← hSE, bstr_list]) sb4 sb2' w)
      have HBYLE := Lib.hid (show bytesOf false g = (LE, fE) by rw [sb1', ← hfE, hE0])
      have e1fE : decide ((0 : Int) < (fE : Int)) = false := decide_eq_false (by omega)
      have e2fE : decide (0 < fE) = false := decide_eq_false (by omega)
      have e3fE : ((fE : Int) == 0) = true := by simp; omega
      have e4fE : (fE == 0) = true := by simp; omega
      have e5fE : decide ((fE : Int) = 0) = true := decide_eq_true (by omega)
      have e6fE : decide (fE = 0) = true := decide_eq_true (by omega)
      have H0fE := Lib.hid (hfE.symm.trans hE0)
      clear sb1 sb2 sb3 sb1' sb2' sb4 nn hTX hTXl hLE hSE hFR hfE hE0 lenLE zLE
      obtain ⟨fN, hfN⟩ : ∃ x, faultOf h = x := ⟨_, rfl⟩
      have HFBLN := Lib.hid ((fault_back true h hhn (fun _ => hhf)).trans hfN)
      have ddfN : (fN == fN) = true := by simp
      obtain ⟨sb1, sb2, sb3⟩ := state_back true h hhn (fun _ => hhf) hN0
      have fewh := right_few hN0
      have nn := right_numbers true ((right_iff h).1 hN0) hhn
      have HNNLN := Lib.hid (show ∀ n ∈ newerN h, Nn n from nn)
      have lenLN : (outL (newerN h)).length ≤ 5000 := by
        have h1 := outL_length (newerN h)
        have h2 : (newerN h).length = 5 + h.us.length * 11 := by unfold newerN; rw [List.length_append, flat_ints_length fieldsN 11 (fun _ => rfl)]; rfl
        omega
      have sb1' : bytesOf true h = (frameL 78 (outL (newerN h)), 0) := sb1
      have sb2' : stateF true (frameL 78 (outL (newerN h))) = 0 := sb2
      have sb4 : gotN (frameL 78 (outL (newerN h))) = backG true h := by
        unfold gotN
        rw [if_pos sb2']
        exact congrArg Prod.fst sb3
      obtain ⟨TXLN, hTX⟩ : ∃ x, bstr (outL (newerN h)) = x := ⟨_, rfl⟩
      have zTXLN : TXLN.size ≤ 5000 := by rw [← hTX, bstr_size]; exact lenLN
      have hTXl : TXLN.data.toList = outL (newerN h) := by rw [← hTX, bstr_list]
      obtain ⟨LN, hLN⟩ : ∃ x, frameL 78 (outL (newerN h)) = x := ⟨_, rfl⟩
      have zLN : LN.length ≤ 6000 := by rw [← hLN, frameL_length]; omega
      obtain ⟨SN, hSN⟩ : ∃ x, bstr LN = x := ⟨_, rfl⟩
      have HSN := Lib.hid hSN
      have hFR : bstr (frameL 78 TXLN.data.toList) = SN := by rw [hTXl, hLN, hSN]
      have HFRLN := Lib.hid hFR
      have HTXLN := Lib.hid hTX
      rw [hLN] at sb1' sb2' sb4
      have HONELN := Lib.hid (fun w => newerof_back h SN (by rw [← hSN, bstr_size]; omega) LN (by rw [← hSN, bstr_list]) sb4 sb2' w)
      have HBYLN := Lib.hid (show bytesOf true h = (LN, fN) by rw [sb1', ← hfN, hN0])
      have e1fN : decide ((0 : Int) < (fN : Int)) = false := decide_eq_false (by omega)
      have e2fN : decide (0 < fN) = false := decide_eq_false (by omega)
      have e3fN : ((fN : Int) == 0) = true := by simp; omega
      have e4fN : (fN == 0) = true := by simp; omega
      have e5fN : decide ((fN : Int) = 0) = true := decide_eq_true (by omega)
      have e6fN : decide (fN = 0) = true := decide_eq_true (by omega)
      have H0fN := Lib.hid (hfN.symm.trans hN0)
      clear sb1 sb2 sb3 sb1' sb2' sb4 nn hTX hTXl hLN hSN hFR hfN hN0 lenLN zLN
      go_wp2_with fail
      refine (ownelder_any g fa ua cf cu (by omega) (by omega) _ M2.out.rf M2.out.ru).mono ?_
      rintro e x3 ⟨g3, cap3, g2, cap2, rfl, bx, ro, rp, hc3, hc2⟩
      have RO := Lib.hid ro
      have RP := Lib.hid rp
      clear ro rp
      have M3 := Lib.hid (M2.out.call bx)
      clear cE lE cN lN
      have cE := M3.out.kE.cell
      have lE := M3.out.kE.lt
      have cN := M3.out.kN.cell
      have lN := M3.out.kN.lt
      clear bx
      go_wp2_with fail
      refine (elderbytes_any g (some ⟨g3, 0, none⟩) (some ⟨g2, 0, none⟩) cap3 cap2 hgn (by omega) (by omega) _ RO.out RP.out HGF.out).mono ?_
      rintro e x4 ⟨rfl, bx⟩
      rw [HBYLE.out]
      dsimp only
      rw [HSE.out]
      have M4 := Lib.hid (M3.out.call bx)
      clear cE lE cN lN
      have cE := M4.out.kE.cell
      have lE := M4.out.kE.lt
      have cN := M4.out.kN.cell
      have lN := M4.out.kN.lt
      clear bx
      go_wp2_with fail
      refine (ofelder_any g fa ua cf cu (by omega) (by omega) _ M4.out.rf M4.out.ru).mono ?_
      rintro e x5 ⟨S4, fv, uv, rfl, gr, bx⟩
      have GR4 := Lib.hid gr
      have M5 := Lib.hid (M4.out.call bx)
      clear cE lE cN lN
      have cE := M5.out.kE.cell
      have lE := M5.out.kE.lt
      have cN := M5.out.kN.cell
      have lN := M5.out.kN.lt
      clear bx gr
      go_wp2_with fail
      refine (fault_game GR4.out (by show g.free.length ≤ 100000; omega) (by simp [backG]; omega)).mono ?_
      rintro e x6 ⟨rfl, bx⟩
      rw [HFBLE.out]
      have M6 := Lib.hid (M5.out.call bx)
      clear cE lE cN lN
      have cE := M6.out.kE.cell
      have lE := M6.out.kE.lt
      have cN := M6.out.kN.cell
      have lN := M6.out.kN.lt
      clear bx
      go_wp2_with fail
      refine (same_any fE fE _).mono ?_
      rintro e y ⟨rfl, rfl⟩
      rw [ddfE]
      go_wp2_with fail
      refine (HONELE.out _).mono ?_
      rintro e x7 ⟨fb, cg, ub, cw, rfl, r0, r1, bx⟩
      have M7 := Lib.hid (M6.out.call bx)
      clear cE lE cN lN
      have cE := M7.out.kE.cell
      have lE := M7.out.kE.lt
      have cN := M7.out.kN.cell
      have lN := M7.out.kN.lt
      clear bx
      obtain ⟨V7, hV7⟩ : ∃ V, x7.alloc (.cells #[.int .i64 g.tick, .int .i64 g.g0, .int .i64 g.g1, .int .i64 g.next, .slice fb g.free.length cg, .slice ub g.us.length cw] 90) = V := ⟨_, rfl⟩
      have bV : Below x7.heap.size x7 V7 := by rw [← hV7]; exact (Below.refl _ _).alloc (Nat.le_refl _) _
      have kV : Blk V7 x7.heap.size #[.int .i64 g.tick, .int .i64 g.g0, .int .i64 g.g1, .int .i64 g.next, .slice fb g.free.length cg, .slice ub g.us.length cw] := by rw [← hV7]; exact Blk.new _ _ _
      have R0 := Lib.hid ((r0.below bV).mono bV.size)
      have R1 := Lib.hid ((r1.below bV).mono bV.size)
      have KV7 := Lib.hid kV
      have BV := Lib.hid bV
      have M8 := Lib.hid (M7.out.call bV)
      clear cE lE cN lN
      have cE := M8.out.kE.cell
      have lE := M8.out.kE.lt
      have cN := M8.out.kN.cell
      have lN := M8.out.kN.lt
      clear bV kV r0 r1
      go_wp2_with fail
      try rw [hV7]
      clear hV7
      refine (eldertext_any g fa ua cf cu _ M8.out.rf M8.out.ru HNNLE.out (by omega) (by omega)).mono ?_
      rintro e x9 ⟨rfl, bx⟩
      rw [HTXLE.out]
      have R1' := Lib.hid ((R1.out.below bx).mono bx.size)
      have KV' := Lib.hid (KV7.out.call bx)
      have R0' := Lib.hid ((R0.out.below bx).mono bx.size)
      have M9 := Lib.hid (M8.out.call bx)
      clear cE lE cN lN
      have cE := M9.out.kE.cell
      have lE := M9.out.kE.lt
      have cN := M9.out.kN.cell
      have lN := M9.out.kN.lt
      clear bx
      go_wp2_with fail
      refine (framed_E TXLE (by omega) _).mono ?_
      rintro e x10 ⟨rfl, bx⟩
      rw [HFRLE.out]
      have R1'' := Lib.hid ((R1'.out.below bx).mono bx.size)
      have kV'' := KV'.out.call bx
      have R0'' := Lib.hid ((R0'.out.below bx).mono bx.size)
      obtain ⟨lV, cV, -⟩ := id kV''
      have M10 := Lib.hid (M9.out.call bx)
      clear cE lE cN lN
      have cE := M10.out.kE.cell
      have lE := M10.out.kE.lt
      have cN := M10.out.kN.cell
      have lN := M10.out.kN.lt
      clear bx
      go_wp2_with fail
      refine (same_any 0 0 _).mono ?_
      rintro e y ⟨rfl, rfl⟩
      rw [dd0]
      go_wp2_with fail
      refine (sameelder_n g.tick g.g0 g.g1 g.next (g.us.map (backU false)) g.us.length (by simp) ub ua cw cu (by omega) g.free fb fa cg cf (by omega) _ R1''.out (urow_backE M10.out.ru) R0''.out M10.out.rf).mono ?_
      rintro e x11 ⟨rfl, bx⟩
      have M11 := Lib.hid (M10.out.call bx)
      clear cE lE cN lN
      have cE := M11.out.kE.cell
      have lE := M11.out.kE.lt
      have cN := M11.out.kN.cell
      have lN := M11.out.kN.lt
      clear bx lV cV kV''
      go_wp2_with fail
      refine (ownnewer_any h va cv (by omega) _ M11.out.rv).mono ?_
      rintro e x12 ⟨g4, cap4, rfl, bx, rp, hc4⟩
      have RQ := Lib.hid rp
      clear rp
      have M12 := Lib.hid (M11.out.call bx)
      clear cE lE cN lN
      have cE := M12.out.kE.cell
      have lE := M12.out.kE.lt
      have cN := M12.out.kN.cell
      have lN := M12.out.kN.lt
      clear bx
      go_wp2_with fail
      refine (newerbytes_any h (some ⟨g4, 0, none⟩) cap4 hhn hhf (by omega) _ RQ.out (fun e => (by cases e)) hc4 HHF.out).mono ?_
      rintro e x13 ⟨rfl, bx⟩
      rw [HBYLN.out]
      dsimp only
      rw [HSN.out]
      have M13 := Lib.hid (M12.out.call bx)
      clear cE lE cN lN
      have cE := M13.out.kE.cell
      have lE := M13.out.kE.lt
      have cN := M13.out.kN.cell
      have lN := M13.out.kN.lt
      clear bx
      go_wp2_with fail
      refine (ofnewer_any h va cv (by omega) _ M13.out.rv).mono ?_
      rintro e x14 ⟨S13, fv, uv, rfl, gr, bx⟩
      have GR13 := Lib.hid gr
      have M14 := Lib.hid (M13.out.call bx)
      clear cE lE cN lN
      have cE := M14.out.kE.cell
      have lE := M14.out.kE.lt
      have cN := M14.out.kN.cell
      have lN := M14.out.kN.lt
      clear bx gr
      go_wp2_with fail
      refine (fault_game GR13.out (by simp [backG]) (by simp [backG]; omega)).mono ?_
      rintro e x15 ⟨rfl, bx⟩
      rw [HFBLN.out]
      have M15 := Lib.hid (M14.out.call bx)
      clear cE lE cN lN
      have cE := M15.out.kE.cell
      have lE := M15.out.kE.lt
      have cN := M15.out.kN.cell
      have lN := M15.out.kN.lt
      clear bx
      go_wp2_with fail
      refine (same_any fN fN _).mono ?_
      rintro e y ⟨rfl, rfl⟩
      rw [ddfN]
      go_wp2_with fail
      refine (HONELN.out _).mono ?_
      rintro e x16 ⟨vb, cw, rfl, r1, bx⟩
      have M16 := Lib.hid (M15.out.call bx)
      clear cE lE cN lN
      have cE := M16.out.kE.cell
      have lE := M16.out.kE.lt
      have cN := M16.out.kN.cell
      have lN := M16.out.kN.lt
      clear bx
      obtain ⟨V16, hV16⟩ : ∃ V, x16.alloc (.cells #[.int .i64 h.tick, .int .i64 h.g0, .int .i64 h.g1, .int .i64 h.next, .slice vb h.us.length cw] 65) = V := ⟨_, rfl⟩
      have bV : Below x16.heap.size x16 V16 := by rw [← hV16]; exact (Below.refl _ _).alloc (Nat.le_refl _) _
      have kV : Blk V16 x16.heap.size #[.int .i64 h.tick, .int .i64 h.g0, .int .i64 h.g1, .int .i64 h.next, .slice vb h.us.length cw] := by rw [← hV16]; exact Blk.new _ _ _
      have R1 := Lib.hid ((r1.below bV).mono bV.size)
      have KV16 := Lib.hid kV
      have BV := Lib.hid bV
      have M17 := Lib.hid (M16.out.call bV)
      clear cE lE cN lN
      have cE := M17.out.kE.cell
      have lE := M17.out.kE.lt
      have cN := M17.out.kN.cell
      have lN := M17.out.kN.lt
      clear bV kV r1
      go_wp2_with fail
      try rw [hV16]
      clear hV16
      refine (newertext_any h va cv _ M17.out.rv HNNLN.out (by omega)).mono ?_
      rintro e x18 ⟨rfl, bx⟩
      rw [HTXLN.out]
      have R1' := Lib.hid ((R1.out.below bx).mono bx.size)
      have KV' := Lib.hid (KV16.out.call bx)
      have M18 := Lib.hid (M17.out.call bx)
      clear cE lE cN lN
      have cE := M18.out.kE.cell
      have lE := M18.out.kE.lt
      have cN := M18.out.kN.cell
      have lN := M18.out.kN.lt
      clear bx
      go_wp2_with fail
      refine (framed_N TXLN (by omega) _).mono ?_
      rintro e x19 ⟨rfl, bx⟩
      rw [HFRLN.out]
      have R1'' := Lib.hid ((R1'.out.below bx).mono bx.size)
      have kV'' := KV'.out.call bx
      obtain ⟨lV, cV, -⟩ := id kV''
      have M19 := Lib.hid (M18.out.call bx)
      clear cE lE cN lN
      have cE := M19.out.kE.cell
      have lE := M19.out.kE.lt
      have cN := M19.out.kN.cell
      have lN := M19.out.kN.lt
      clear bx
      go_wp2_with fail
      refine (same_any 0 0 _).mono ?_
      rintro e y ⟨rfl, rfl⟩
      rw [dd0]
      go_wp2_with fail
      refine (samenewer_n h.tick h.g0 h.g1 h.next (h.us.map (backU true)) h.us.length (by simp) vb va cw cv (by omega) _ R1''.out (urow_backN M19.out.rv)).mono ?_
      rintro e x20 ⟨rfl, bx⟩
      have M20 := Lib.hid (M19.out.call bx)
      clear cE lE cN lN
      have cE := M20.out.kE.cell
      have lE := M20.out.kE.lt
      have cN := M20.out.kN.cell
      have lN := M20.out.kN.lt
      clear bx lV cV kV''
      go_wp2_with fail
      go_ret
      exact ⟨rfl, M20.out.bel⟩
    · obtain ⟨fE, hfE⟩ : ∃ x, faultOf g = x := ⟨_, rfl⟩
      have HFBLE := Lib.hid ((fault_back false g hgn (fun e => (by cases e))).trans hfE)
      have ddfE : (fE == fE) = true := by simp
      obtain ⟨sb1, sb2, sb3⟩ := state_back false g hgn (fun e => (by cases e)) hE0
      have fewg := right_few hE0
      have nn := right_numbers false ((right_iff g).1 hE0) hgn
      have HNNLE := Lib.hid (show ∀ n ∈ elderN g, Nn n from nn)
      have lenLE : (outL (elderN g)).length ≤ 5000 := by
        have h1 := outL_length (elderN g)
        rw [elderN_length] at h1
        omega
      have sb1' : bytesOf false g = (frameL 69 (outL (elderN g)), 0) := sb1
      have sb2' : stateF false (frameL 69 (outL (elderN g))) = 0 := sb2
      have sb4 : gotE (frameL 69 (outL (elderN g))) = backG false g := by
        unfold gotE
        rw [if_pos sb2']
        exact congrArg Prod.fst sb3
      obtain ⟨TXLE, hTX⟩ : ∃ x, bstr (outL (elderN g)) = x := ⟨_, rfl⟩
      have zTXLE : TXLE.size ≤ 5000 := by rw [← hTX, bstr_size]; exact lenLE
      have hTXl : TXLE.data.toList = outL (elderN g) := by rw [← hTX, bstr_list]
      obtain ⟨LE, hLE⟩ : ∃ x, frameL 69 (outL (elderN g)) = x := ⟨_, rfl⟩
      have zLE : LE.length ≤ 6000 := by rw [← hLE, frameL_length]; omega
      obtain ⟨SE, hSE⟩ : ∃ x, bstr LE = x := ⟨_, rfl⟩
      have HSE := Lib.hid hSE
      have hFR : bstr (frameL 69 TXLE.data.toList) = SE := by rw [hTXl, hLE, hSE]
      have HFRLE := Lib.hid hFR
      have HTXLE := Lib.hid hTX
      rw [hLE] at sb1' sb2' sb4
      have HONELE := Lib.hid (fun w => elderof_back g SE (by rw [← hSE, bstr_size]; omega) LE (by rw [← hSE, bstr_list]) sb4 sb2' w)
      have HBYLE := Lib.hid (show bytesOf false g = (LE, fE) by rw [sb1', ← hfE, hE0])
      have e1fE : decide ((0 : Int) < (fE : Int)) = false := decide_eq_false (by omega)
      have e2fE : decide (0 < fE) = false := decide_eq_false (by omega)
      have e3fE : ((fE : Int) == 0) = true := by simp; omega
      have e4fE : (fE == 0) = true := by simp; omega
      have e5fE : decide ((fE : Int) = 0) = true := decide_eq_true (by omega)
      have e6fE : decide (fE = 0) = true := decide_eq_true (by omega)
      have H0fE := Lib.hid (hfE.symm.trans hE0)
      clear sb1 sb2 sb3 sb1' sb2' sb4 nn hTX hTXl hLE hSE hFR hfE hE0 lenLE zLE
      obtain ⟨fN, hfN⟩ : ∃ x, faultOf h = x := ⟨_, rfl⟩
      have HFBLN := Lib.hid ((fault_back true h hhn (fun _ => hhf)).trans hfN)
      have ddfN : (fN == fN) = true := by simp
      have HBYLN := Lib.hid (show bytesOf true h = ([], fN) by rw [state_bad true h hN0, hfN])
      have HSN := Lib.hid bstr_nil
      have hpfN : 0 < fN := by omega
      have e1fN : decide ((0 : Int) < (fN : Int)) = true := decide_eq_true (by omega)
      have e2fN : decide (0 < fN) = true := decide_eq_true (by omega)
      have e3fN : ((fN : Int) == 0) = false := by simp; omega
      have e4fN : (fN == 0) = false := by simp; omega
      have e5fN : decide ((fN : Int) = 0) = false := decide_eq_false (by omega)
      have e6fN : decide (fN = 0) = false := decide_eq_false (by omega)
      clear hfN hN0
      go_wp2_with fail
      refine (ownelder_any g fa ua cf cu (by omega) (by omega) _ M2.out.rf M2.out.ru).mono ?_
      rintro e x3 ⟨g3, cap3, g2, cap2, rfl, bx, ro, rp, hc3, hc2⟩
      have RO := Lib.hid ro
      have RP := Lib.hid rp
      clear ro rp
      have M3 := Lib.hid (M2.out.call bx)
      clear cE lE cN lN
      have cE := M3.out.kE.cell
      have lE := M3.out.kE.lt
      have cN := M3.out.kN.cell
      have lN := M3.out.kN.lt
      clear bx
      go_wp2_with fail
      refine (elderbytes_any g (some ⟨g3, 0, none⟩) (some ⟨g2, 0, none⟩) cap3 cap2 hgn (by omega) (by omega) _ RO.out RP.out HGF.out).mono ?_
      rintro e x4 ⟨rfl, bx⟩
      rw [HBYLE.out]
      dsimp only
      rw [HSE.out]
      have M4 := Lib.hid (M3.out.call bx)
      clear cE lE cN lN
      have cE := M4.out.kE.cell
      have lE := M4.out.kE.lt
      have cN := M4.out.kN.cell
      have lN := M4.out.kN.lt
      clear bx
      go_wp2_with fail
      refine (ofelder_any g fa ua cf cu (by omega) (by omega) _ M4.out.rf M4.out.ru).mono ?_
      rintro e x5 ⟨S4, fv, uv, rfl, gr, bx⟩
      have GR4 := Lib.hid gr
      have M5 := Lib.hid (M4.out.call bx)
      clear cE lE cN lN
      have cE := M5.out.kE.cell
      have lE := M5.out.kE.lt
      have cN := M5.out.kN.cell
      have lN := M5.out.kN.lt
      clear bx gr
      go_wp2_with fail
      refine (fault_game GR4.out (by show g.free.length ≤ 100000; omega) (by simp [backG]; omega)).mono ?_
      rintro e x6 ⟨rfl, bx⟩
      rw [HFBLE.out]
      have M6 := Lib.hid (M5.out.call bx)
      clear cE lE cN lN
      have cE := M6.out.kE.cell
      have lE := M6.out.kE.lt
      have cN := M6.out.kN.cell
      have lN := M6.out.kN.lt
      clear bx
      go_wp2_with fail
      refine (same_any fE fE _).mono ?_
      rintro e y ⟨rfl, rfl⟩
      rw [ddfE]
      go_wp2_with fail
      refine (HONELE.out _).mono ?_
      rintro e x7 ⟨fb, cg, ub, cw, rfl, r0, r1, bx⟩
      have M7 := Lib.hid (M6.out.call bx)
      clear cE lE cN lN
      have cE := M7.out.kE.cell
      have lE := M7.out.kE.lt
      have cN := M7.out.kN.cell
      have lN := M7.out.kN.lt
      clear bx
      obtain ⟨V7, hV7⟩ : ∃ V, x7.alloc (.cells #[.int .i64 g.tick, .int .i64 g.g0, .int .i64 g.g1, .int .i64 g.next, .slice fb g.free.length cg, .slice ub g.us.length cw] 90) = V := ⟨_, rfl⟩
      have bV : Below x7.heap.size x7 V7 := by rw [← hV7]; exact (Below.refl _ _).alloc (Nat.le_refl _) _
      have kV : Blk V7 x7.heap.size #[.int .i64 g.tick, .int .i64 g.g0, .int .i64 g.g1, .int .i64 g.next, .slice fb g.free.length cg, .slice ub g.us.length cw] := by rw [← hV7]; exact Blk.new _ _ _
      have R0 := Lib.hid ((r0.below bV).mono bV.size)
      have R1 := Lib.hid ((r1.below bV).mono bV.size)
      have KV7 := Lib.hid kV
      have BV := Lib.hid bV
      have M8 := Lib.hid (M7.out.call bV)
      clear cE lE cN lN
      have cE := M8.out.kE.cell
      have lE := M8.out.kE.lt
      have cN := M8.out.kN.cell
      have lN := M8.out.kN.lt
      clear bV kV r0 r1
      go_wp2_with fail
      try rw [hV7]
      clear hV7
      refine (eldertext_any g fa ua cf cu _ M8.out.rf M8.out.ru HNNLE.out (by omega) (by omega)).mono ?_
      rintro e x9 ⟨rfl, bx⟩
      rw [HTXLE.out]
      have R1' := Lib.hid ((R1.out.below bx).mono bx.size)
      have KV' := Lib.hid (KV7.out.call bx)
      have R0' := Lib.hid ((R0.out.below bx).mono bx.size)
      have M9 := Lib.hid (M8.out.call bx)
      clear cE lE cN lN
      have cE := M9.out.kE.cell
      have lE := M9.out.kE.lt
      have cN := M9.out.kN.cell
      have lN := M9.out.kN.lt
      clear bx
      go_wp2_with fail
      refine (framed_E TXLE (by omega) _).mono ?_
      rintro e x10 ⟨rfl, bx⟩
      rw [HFRLE.out]
      have R1'' := Lib.hid ((R1'.out.below bx).mono bx.size)
      have kV'' := KV'.out.call bx
      have R0'' := Lib.hid ((R0'.out.below bx).mono bx.size)
      obtain ⟨lV, cV, -⟩ := id kV''
      have M10 := Lib.hid (M9.out.call bx)
      clear cE lE cN lN
      have cE := M10.out.kE.cell
      have lE := M10.out.kE.lt
      have cN := M10.out.kN.cell
      have lN := M10.out.kN.lt
      clear bx
      go_wp2_with fail
      refine (same_any 0 0 _).mono ?_
      rintro e y ⟨rfl, rfl⟩
      rw [dd0]
      go_wp2_with fail
      refine (sameelder_n g.tick g.g0 g.g1 g.next (g.us.map (backU false)) g.us.length (by simp) ub ua cw cu (by omega) g.free fb fa cg cf (by omega) _ R1''.out (urow_backE M10.out.ru) R0''.out M10.out.rf).mono ?_
      rintro e x11 ⟨rfl, bx⟩
      have M11 := Lib.hid (M10.out.call bx)
      clear cE lE cN lN
      have cE := M11.out.kE.cell
      have lE := M11.out.kE.lt
      have cN := M11.out.kN.cell
      have lN := M11.out.kN.lt
      clear bx lV cV kV''
      go_wp2_with fail
      refine (ownnewer_any h va cv (by omega) _ M11.out.rv).mono ?_
      rintro e x12 ⟨g4, cap4, rfl, bx, rp, hc4⟩
      have RQ := Lib.hid rp
      clear rp
      have M12 := Lib.hid (M11.out.call bx)
      clear cE lE cN lN
      have cE := M12.out.kE.cell
      have lE := M12.out.kE.lt
      have cN := M12.out.kN.cell
      have lN := M12.out.kN.lt
      clear bx
      go_wp2_with fail
      refine (newerbytes_any h (some ⟨g4, 0, none⟩) cap4 hhn hhf (by omega) _ RQ.out (fun e => (by cases e)) hc4 HHF.out).mono ?_
      rintro e x13 ⟨rfl, bx⟩
      rw [HBYLN.out]
      dsimp only
      rw [HSN.out]
      have M13 := Lib.hid (M12.out.call bx)
      clear cE lE cN lN
      have cE := M13.out.kE.cell
      have lE := M13.out.kE.lt
      have cN := M13.out.kN.cell
      have lN := M13.out.kN.lt
      clear bx
      go_wp2_with fail
      refine (ofnewer_any h va cv (by omega) _ M13.out.rv).mono ?_
      rintro e x14 ⟨S13, fv, uv, rfl, gr, bx⟩
      have GR13 := Lib.hid gr
      have M14 := Lib.hid (M13.out.call bx)
      clear cE lE cN lN
      have cE := M14.out.kE.cell
      have lE := M14.out.kE.lt
      have cN := M14.out.kN.cell
      have lN := M14.out.kN.lt
      clear bx gr
      go_wp2_with fail
      refine (fault_game GR13.out (by simp [backG]) (by simp [backG]; omega)).mono ?_
      rintro e x15 ⟨rfl, bx⟩
      rw [HFBLN.out]
      have M15 := Lib.hid (M14.out.call bx)
      clear cE lE cN lN
      have cE := M15.out.kE.cell
      have lE := M15.out.kE.lt
      have cN := M15.out.kN.cell
      have lN := M15.out.kN.lt
      clear bx
      go_wp2_with fail
      refine (same_any fN fN _).mono ?_
      rintro e y ⟨rfl, rfl⟩
      rw [ddfN]
      go_wp2_with fail
      refine (same_any fN fN _).mono ?_
      rintro e y ⟨rfl, rfl⟩
      rw [ddfN]
      go_wp2_with fail
      go_ret
      exact ⟨rfl, M15.out.bel⟩
  · by_cases hN0 : faultOf h = 0
    · obtain ⟨fE, hfE⟩ : ∃ x, faultOf g = x := ⟨_, rfl⟩
      have HFBLE := Lib.hid ((fault_back false g hgn (fun e => (by cases e))).trans hfE)
      have ddfE : (fE == fE) = true := by simp
      have HBYLE := Lib.hid (show bytesOf false g = ([], fE) by rw [state_bad false g hE0, hfE])
      have HSE := Lib.hid bstr_nil
      have hpfE : 0 < fE := by omega
      have e1fE : decide ((0 : Int) < (fE : Int)) = true := decide_eq_true (by omega)
      have e2fE : decide (0 < fE) = true := decide_eq_true (by omega)
      have e3fE : ((fE : Int) == 0) = false := by simp; omega
      have e4fE : (fE == 0) = false := by simp; omega
      have e5fE : decide ((fE : Int) = 0) = false := decide_eq_false (by omega)
      have e6fE : decide (fE = 0) = false := decide_eq_false (by omega)
      clear hfE hE0
      obtain ⟨fN, hfN⟩ : ∃ x, faultOf h = x := ⟨_, rfl⟩
      have HFBLN := Lib.hid ((fault_back true h hhn (fun _ => hhf)).trans hfN)
      have ddfN : (fN == fN) = true := by simp
      obtain ⟨sb1, sb2, sb3⟩ := state_back true h hhn (fun _ => hhf) hN0
      have fewh := right_few hN0
      have nn := right_numbers true ((right_iff h).1 hN0) hhn
      have HNNLN := Lib.hid (show ∀ n ∈ newerN h, Nn n from nn)
      have lenLN : (outL (newerN h)).length ≤ 5000 := by
        have h1 := outL_length (newerN h)
        have h2 : (newerN h).length = 5 + h.us.length * 11 := by unfold newerN; rw [List.length_append, flat_ints_length fieldsN 11 (fun _ => rfl)]; rfl
        omega
      have sb1' : bytesOf true h = (frameL 78 (outL (newerN h)), 0) := sb1
      have sb2' : stateF true (frameL 78 (outL (newerN h))) = 0 := sb2
      have sb4 : gotN (frameL 78 (outL (newerN h))) = backG true h := by
        unfold gotN
        rw [if_pos sb2']
        exact congrArg Prod.fst sb3
      obtain ⟨TXLN, hTX⟩ : ∃ x, bstr (outL (newerN h)) = x := ⟨_, rfl⟩
      have zTXLN : TXLN.size ≤ 5000 := by rw [← hTX, bstr_size]; exact lenLN
      have hTXl : TXLN.data.toList = outL (newerN h) := by rw [← hTX, bstr_list]
      obtain ⟨LN, hLN⟩ : ∃ x, frameL 78 (outL (newerN h)) = x := ⟨_, rfl⟩
      have zLN : LN.length ≤ 6000 := by rw [← hLN, frameL_length]; omega
      obtain ⟨SN, hSN⟩ : ∃ x, bstr LN = x := ⟨_, rfl⟩
      have HSN := Lib.hid hSN
      have hFR : bstr (frameL 78 TXLN.data.toList) = SN := by rw [hTXl, hLN, hSN]
      have HFRLN := Lib.hid hFR
      have HTXLN := Lib.hid hTX
      rw [hLN] at sb1' sb2' sb4
      have HONELN := Lib.hid (fun w => newerof_back h SN (by rw [← hSN, bstr_size]; omega) LN (by rw [← hSN, bstr_list]) sb4 sb2' w)
      have HBYLN := Lib.hid (show bytesOf true h = (LN, fN) by rw [sb1', ← hfN, hN0])
      have e1fN : decide ((0 : Int) < (fN : Int)) = false := decide_eq_false (by omega)
      have e2fN : decide (0 < fN) = false := decide_eq_false (by omega)
      have e3fN : ((fN : Int) == 0) = true := by simp; omega
      have e4fN : (fN == 0) = true := by simp; omega
      have e5fN : decide ((fN : Int) = 0) = true := decide_eq_true (by omega)
      have e6fN : decide (fN = 0) = true := decide_eq_true (by omega)
      have H0fN := Lib.hid (hfN.symm.trans hN0)
      clear sb1 sb2 sb3 sb1' sb2' sb4 nn hTX hTXl hLN hSN hFR hfN hN0 lenLN zLN
      go_wp2_with fail
      refine (ownelder_any g fa ua cf cu (by omega) (by omega) _ M2.out.rf M2.out.ru).mono ?_
      rintro e x3 ⟨g3, cap3, g2, cap2, rfl, bx, ro, rp, hc3, hc2⟩
      have RO := Lib.hid ro
      have RP := Lib.hid rp
      clear ro rp
      have M3 := Lib.hid (M2.out.call bx)
      clear cE lE cN lN
      have cE := M3.out.kE.cell
      have lE := M3.out.kE.lt
      have cN := M3.out.kN.cell
      have lN := M3.out.kN.lt
      clear bx
      go_wp2_with fail
      refine (elderbytes_any g (some ⟨g3, 0, none⟩) (some ⟨g2, 0, none⟩) cap3 cap2 hgn (by omega) (by omega) _ RO.out RP.out HGF.out).mono ?_
      rintro e x4 ⟨rfl, bx⟩
      rw [HBYLE.out]
      dsimp only
      rw [HSE.out]
      have M4 := Lib.hid (M3.out.call bx)
      clear cE lE cN lN
      have cE := M4.out.kE.cell
      have lE := M4.out.kE.lt
      have cN := M4.out.kN.cell
      have lN := M4.out.kN.lt
      clear bx
      go_wp2_with fail
      refine (ofelder_any g fa ua cf cu (by omega) (by omega) _ M4.out.rf M4.out.ru).mono ?_
      rintro e x5 ⟨S4, fv, uv, rfl, gr, bx⟩
      have GR4 := Lib.hid gr
      have M5 := Lib.hid (M4.out.call bx)
      clear cE lE cN lN
      have cE := M5.out.kE.cell
      have lE := M5.out.kE.lt
      have cN := M5.out.kN.cell
      have lN := M5.out.kN.lt
      clear bx gr
      go_wp2_with fail
      refine (fault_game GR4.out (by show g.free.length ≤ 100000; omega) (by simp [backG]; omega)).mono ?_
      rintro e x6 ⟨rfl, bx⟩
      rw [HFBLE.out]
      have M6 := Lib.hid (M5.out.call bx)
      clear cE lE cN lN
      have cE := M6.out.kE.cell
      have lE := M6.out.kE.lt
      have cN := M6.out.kN.cell
      have lN := M6.out.kN.lt
      clear bx
      go_wp2_with fail
      refine (same_any fE fE _).mono ?_
      rintro e y ⟨rfl, rfl⟩
      rw [ddfE]
      go_wp2_with fail
      refine (ownnewer_any h va cv (by omega) _ M6.out.rv).mono ?_
      rintro e x7 ⟨g4, cap4, rfl, bx, rp, hc4⟩
      have RQ := Lib.hid rp
      clear rp
      have M7 := Lib.hid (M6.out.call bx)
      clear cE lE cN lN
      have cE := M7.out.kE.cell
      have lE := M7.out.kE.lt
      have cN := M7.out.kN.cell
      have lN := M7.out.kN.lt
      clear bx
      go_wp2_with fail
      refine (newerbytes_any h (some ⟨g4, 0, none⟩) cap4 hhn hhf (by omega) _ RQ.out (fun e => (by cases e)) hc4 HHF.out).mono ?_
      rintro e x8 ⟨rfl, bx⟩
      rw [HBYLN.out]
      dsimp only
      rw [HSN.out]
      have M8 := Lib.hid (M7.out.call bx)
      clear cE lE cN lN
      have cE := M8.out.kE.cell
      have lE := M8.out.kE.lt
      have cN := M8.out.kN.cell
      have lN := M8.out.kN.lt
      clear bx
      go_wp2_with fail
      refine (ofnewer_any h va cv (by omega) _ M8.out.rv).mono ?_
      rintro e x9 ⟨S8, fv, uv, rfl, gr, bx⟩
      have GR8 := Lib.hid gr
      have M9 := Lib.hid (M8.out.call bx)
      clear cE lE cN lN
      have cE := M9.out.kE.cell
      have lE := M9.out.kE.lt
      have cN := M9.out.kN.cell
      have lN := M9.out.kN.lt
      clear bx gr
      go_wp2_with fail
      refine (fault_game GR8.out (by simp [backG]) (by simp [backG]; omega)).mono ?_
      rintro e x10 ⟨rfl, bx⟩
      rw [HFBLN.out]
      have M10 := Lib.hid (M9.out.call bx)
      clear cE lE cN lN
      have cE := M10.out.kE.cell
      have lE := M10.out.kE.lt
      have cN := M10.out.kN.cell
      have lN := M10.out.kN.lt
      clear bx
      go_wp2_with fail
      refine (same_any fN fN _).mono ?_
      rintro e y ⟨rfl, rfl⟩
      rw [ddfN]
      go_wp2_with fail
      refine (HONELN.out _).mono ?_
      rintro e x11 ⟨vb, cw, rfl, r1, bx⟩
      have M11 := Lib.hid (M10.out.call bx)
      clear cE lE cN lN
      have cE := M11.out.kE.cell
      have lE := M11.out.kE.lt
      have cN := M11.out.kN.cell
      have lN := M11.out.kN.lt
      clear bx
      obtain ⟨V11, hV11⟩ : ∃ V, x11.alloc (.cells #[.int .i64 h.tick, .int .i64 h.g0, .int .i64 h.g1, .int .i64 h.next, .slice vb h.us.length cw] 65) = V := ⟨_, rfl⟩
      have bV : Below x11.heap.size x11 V11 := by rw [← hV11]; exact (Below.refl _ _).alloc (Nat.le_refl _) _
      have kV : Blk V11 x11.heap.size #[.int .i64 h.tick, .int .i64 h.g0, .int .i64 h.g1, .int .i64 h.next, .slice vb h.us.length cw] := by rw [← hV11]; exact Blk.new _ _ _
      have R1 := Lib.hid ((r1.below bV).mono bV.size)
      have KV11 := Lib.hid kV
      have BV := Lib.hid bV
      have M12 := Lib.hid (M11.out.call bV)
      clear cE lE cN lN
      have cE := M12.out.kE.cell
      have lE := M12.out.kE.lt
      have cN := M12.out.kN.cell
      have lN := M12.out.kN.lt
      clear bV kV r1
      go_wp2_with fail
      try rw [hV11]
      clear hV11
      refine (newertext_any h va cv _ M12.out.rv HNNLN.out (by omega)).mono ?_
      rintro e x13 ⟨rfl, bx⟩
      rw [HTXLN.out]
      have R1' := Lib.hid ((R1.out.below bx).mono bx.size)
      have KV' := Lib.hid (KV11.out.call bx)
      have M13 := Lib.hid (M12.out.call bx)
      clear cE lE cN lN
      have cE := M13.out.kE.cell
      have lE := M13.out.kE.lt
      have cN := M13.out.kN.cell
      have lN := M13.out.kN.lt
      clear bx
      go_wp2_with fail
      refine (framed_N TXLN (by omega) _).mono ?_
      rintro e x14 ⟨rfl, bx⟩
      rw [HFRLN.out]
      have R1'' := Lib.hid ((R1'.out.below bx).mono bx.size)
      have kV'' := KV'.out.call bx
      obtain ⟨lV, cV, -⟩ := id kV''
      have M14 := Lib.hid (M13.out.call bx)
      clear cE lE cN lN
      have cE := M14.out.kE.cell
      have lE := M14.out.kE.lt
      have cN := M14.out.kN.cell
      have lN := M14.out.kN.lt
      clear bx
      go_wp2_with fail
      refine (same_any 0 0 _).mono ?_
      rintro e y ⟨rfl, rfl⟩
      rw [dd0]
      go_wp2_with fail
      refine (samenewer_n h.tick h.g0 h.g1 h.next (h.us.map (backU true)) h.us.length (by simp) vb va cw cv (by omega) _ R1''.out (urow_backN M14.out.rv)).mono ?_
      rintro e x15 ⟨rfl, bx⟩
      have M15 := Lib.hid (M14.out.call bx)
      clear cE lE cN lN
      have cE := M15.out.kE.cell
      have lE := M15.out.kE.lt
      have cN := M15.out.kN.cell
      have lN := M15.out.kN.lt
      clear bx lV cV kV''
      go_wp2_with fail
      go_ret
      exact ⟨rfl, M15.out.bel⟩
    · obtain ⟨fE, hfE⟩ : ∃ x, faultOf g = x := ⟨_, rfl⟩
      have HFBLE := Lib.hid ((fault_back false g hgn (fun e => (by cases e))).trans hfE)
      have ddfE : (fE == fE) = true := by simp
      have HBYLE := Lib.hid (show bytesOf false g = ([], fE) by rw [state_bad false g hE0, hfE])
      have HSE := Lib.hid bstr_nil
      have hpfE : 0 < fE := by omega
      have e1fE : decide ((0 : Int) < (fE : Int)) = true := decide_eq_true (by omega)
      have e2fE : decide (0 < fE) = true := decide_eq_true (by omega)
      have e3fE : ((fE : Int) == 0) = false := by simp; omega
      have e4fE : (fE == 0) = false := by simp; omega
      have e5fE : decide ((fE : Int) = 0) = false := decide_eq_false (by omega)
      have e6fE : decide (fE = 0) = false := decide_eq_false (by omega)
      clear hfE hE0
      obtain ⟨fN, hfN⟩ : ∃ x, faultOf h = x := ⟨_, rfl⟩
      have HFBLN := Lib.hid ((fault_back true h hhn (fun _ => hhf)).trans hfN)
      have ddfN : (fN == fN) = true := by simp
      have HBYLN := Lib.hid (show bytesOf true h = ([], fN) by rw [state_bad true h hN0, hfN])
      have HSN := Lib.hid bstr_nil
      have hpfN : 0 < fN := by omega
      have e1fN : decide ((0 : Int) < (fN : Int)) = true := decide_eq_true (by omega)
      have e2fN : decide (0 < fN) = true := decide_eq_true (by omega)
      have e3fN : ((fN : Int) == 0) = false := by simp; omega
      have e4fN : (fN == 0) = false := by simp; omega
      have e5fN : decide ((fN : Int) = 0) = false := decide_eq_false (by omega)
      have e6fN : decide (fN = 0) = false := decide_eq_false (by omega)
      clear hfN hN0
      go_wp2_with fail
      refine (ownelder_any g fa ua cf cu (by omega) (by omega) _ M2.out.rf M2.out.ru).mono ?_
      rintro e x3 ⟨g3, cap3, g2, cap2, rfl, bx, ro, rp, hc3, hc2⟩
      have RO := Lib.hid ro
      have RP := Lib.hid rp
      clear ro rp
      have M3 := Lib.hid (M2.out.call bx)
      clear cE lE cN lN
      have cE := M3.out.kE.cell
      have lE := M3.out.kE.lt
      have cN := M3.out.kN.cell
      have lN := M3.out.kN.lt
      clear bx
      go_wp2_with fail
      refine (elderbytes_any g (some ⟨g3, 0, none⟩) (some ⟨g2, 0, none⟩) cap3 cap2 hgn (by omega) (by omega) _ RO.out RP.out HGF.out).mono ?_
      rintro e x4 ⟨rfl, bx⟩
      rw [HBYLE.out]
      dsimp only
      rw [HSE.out]
      have M4 := Lib.hid (M3.out.call bx)
      clear cE lE cN lN
      have cE := M4.out.kE.cell
      have lE := M4.out.kE.lt
      have cN := M4.out.kN.cell
      have lN := M4.out.kN.lt
      clear bx
      go_wp2_with fail
      refine (ofelder_any g fa ua cf cu (by omega) (by omega) _ M4.out.rf M4.out.ru).mono ?_
      rintro e x5 ⟨S4, fv, uv, rfl, gr, bx⟩
      have GR4 := Lib.hid gr
      have M5 := Lib.hid (M4.out.call bx)
      clear cE lE cN lN
      have cE := M5.out.kE.cell
      have lE := M5.out.kE.lt
      have cN := M5.out.kN.cell
      have lN := M5.out.kN.lt
      clear bx gr
      go_wp2_with fail
      refine (fault_game GR4.out (by show g.free.length ≤ 100000; omega) (by simp [backG]; omega)).mono ?_
      rintro e x6 ⟨rfl, bx⟩
      rw [HFBLE.out]
      have M6 := Lib.hid (M5.out.call bx)
      clear cE lE cN lN
      have cE := M6.out.kE.cell
      have lE := M6.out.kE.lt
      have cN := M6.out.kN.cell
      have lN := M6.out.kN.lt
      clear bx
      go_wp2_with fail
      refine (same_any fE fE _).mono ?_
      rintro e y ⟨rfl, rfl⟩
      rw [ddfE]
      go_wp2_with fail
      refine (ownnewer_any h va cv (by omega) _ M6.out.rv).mono ?_
      rintro e x7 ⟨g4, cap4, rfl, bx, rp, hc4⟩
      have RQ := Lib.hid rp
      clear rp
      have M7 := Lib.hid (M6.out.call bx)
      clear cE lE cN lN
      have cE := M7.out.kE.cell
      have lE := M7.out.kE.lt
      have cN := M7.out.kN.cell
      have lN := M7.out.kN.lt
      clear bx
      go_wp2_with fail
      refine (newerbytes_any h (some ⟨g4, 0, none⟩) cap4 hhn hhf (by omega) _ RQ.out (fun e => (by cases e)) hc4 HHF.out).mono ?_
      rintro e x8 ⟨rfl, bx⟩
      rw [HBYLN.out]
      dsimp only
      rw [HSN.out]
      have M8 := Lib.hid (M7.out.call bx)
      clear cE lE cN lN
      have cE := M8.out.kE.cell
      have lE := M8.out.kE.lt
      have cN := M8.out.kN.cell
      have lN := M8.out.kN.lt
      clear bx
      go_wp2_with fail
      refine (ofnewer_any h va cv (by omega) _ M8.out.rv).mono ?_
      rintro e x9 ⟨S8, fv, uv, rfl, gr, bx⟩
      have GR8 := Lib.hid gr
      have M9 := Lib.hid (M8.out.call bx)
      clear cE lE cN lN
      have cE := M9.out.kE.cell
      have lE := M9.out.kE.lt
      have cN := M9.out.kN.cell
      have lN := M9.out.kN.lt
      clear bx gr
      go_wp2_with fail
      refine (fault_game GR8.out (by simp [backG]) (by simp [backG]; omega)).mono ?_
      rintro e x10 ⟨rfl, bx⟩
      rw [HFBLN.out]
      have M10 := Lib.hid (M9.out.call bx)
      clear cE lE cN lN
      have cE := M10.out.kE.cell
      have lE := M10.out.kE.lt
      have cN := M10.out.kN.cell
      have lN := M10.out.kN.lt
      clear bx
      go_wp2_with fail
      refine (same_any fN fN _).mono ?_
      rintro e y ⟨rfl, rfl⟩
      rw [ddfN]
      go_wp2_with fail
      refine (same_any fN fN _).mono ?_
      rintro e y ⟨rfl, rfl⟩
      rw [ddfN]
      go_wp2_with fail
      go_ret
      exact ⟨rfl, M10.out.bel⟩
end Go.Proofs.Ytlfljlhppigejaa
