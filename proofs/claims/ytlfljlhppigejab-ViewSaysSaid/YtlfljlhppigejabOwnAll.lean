/-
  The walks of the law's OwnElder and OwnNewer: a state in memory of one's own, with marks behind.
-/
import Derived.Test.YtlfljlhppigejabPackRef
import Derived.Test.YtlfljlhppigejabPackMix
import Derived.Test.YtlfljlhppigejabPackIn
import Derived.RegionTactic
import Derived.Deep.RegionWith
import Derived.BigRegion
namespace Go.Proofs.Ytlfljlhppigejab
open Go.RowKit
attribute [local go_sem] qUp qOneK

theorem int_one {l : List Int} : ∀ q ∈ intCells l, q.oneCell' = true := by intro q hq; obtain ⟨n, -, rfl⟩ := List.mem_map.1 hq; rfl
theorem news_int {n : Nat} {x w : World} {fa : Option Addr} {l : List Int} (hn : l.length = n) (h : Row w.heap.size w fa n (fun k => .int .i64 (l.getD k 0))) (hx : ∀ b o, b < w.heap.size → x.cell? ⟨b, o, none⟩ = w.cell? ⟨b, o, none⟩) (h0 : 0 < n) : ∃ b o, fa = some ⟨b, o, none⟩ ∧ ∀ j, j < n * 1 → x.cell? ⟨b, o + j, none⟩ = (intCells l)[j]? := by
  obtain ⟨b, o, ha, hbB, -⟩ := h 0 h0
  refine ⟨b, o, ha, fun j hj => ?_⟩
  obtain ⟨b', o', ha', hbB', hc⟩ := h j (by omega)
  rw [ha] at ha'
  cases ha'
  have hjl : j < l.length := by omega
  rw [hx b _ hbB', hc]
  simp [intCells, List.getD, hjl]
theorem news_E {x w : World} {ua : Option Addr} {us : List U} (h : URow false w.heap.size w ua us) (hx : ∀ b o, b < w.heap.size → x.cell? ⟨b, o, none⟩ = w.cell? ⟨b, o, none⟩) (h0 : 0 < us.length) : ∃ b o, ua = some ⟨b, o, none⟩ ∧ ∀ j, j < us.length * 10 → x.cell? ⟨b, o + j, none⟩ = (cellsAll us)[j]? := by
  obtain ⟨b, o, ha, -, -⟩ := h 0 h0
  refine ⟨b, o, ha, fun j hj => ?_⟩
  obtain ⟨b', o', ha', hbB', hc⟩ := h (j / 10) (by omega)
  rw [ha] at ha'
  cases ha'
  have h3 := hc (j % 10) (by show j % 10 < 10; omega)
  have h4 := cellsAll_get us (j / 10) (j % 10) (by omega) (by omega)
  rw [show j / 10 * 10 + j % 10 = j from by omega] at h4
  rw [h4, hx b _ hbB']
  rw [show o + j = o + j / 10 * szOf false + j % 10 from by show _ = o + j / 10 * 10 + j % 10; omega]
  exact h3
theorem news_N {x w : World} {ua : Option Addr} {us : List U} (h : URow true w.heap.size w ua us) (hx : ∀ b o, b < w.heap.size → x.cell? ⟨b, o, none⟩ = w.cell? ⟨b, o, none⟩) (h0 : 0 < us.length) : ∃ b o, ua = some ⟨b, o, none⟩ ∧ ∀ j, j < us.length * 11 → x.cell? ⟨b, o + j, none⟩ = (cellsAllN us)[j]? := by
  obtain ⟨b, o, ha, -, -⟩ := h 0 h0
  refine ⟨b, o, ha, fun j hj => ?_⟩
  obtain ⟨b', o', ha', hbB', hc⟩ := h (j / 11) (by omega)
  rw [ha] at ha'
  cases ha'
  have h3 := hc (j % 11) (by show j % 11 < 11; omega)
  have h4 := cellsAllN_get us (j / 11) (j % 11) (by omega) (by omega)
  rw [show j / 11 * 11 + j % 11 = j from by omega] at h4
  rw [h4, hx b _ hbB']
  rw [show o + j = o + j / 11 * szOf true + j % 11 from by show _ = o + j / 11 * 11 + j % 11; omega]
  exact h3
theorem oldcell {v w : World} {x : World} (hx : Kp (fun _ => False) v x) (hb : Below w.heap.size w v) : ∀ b o, b < w.heap.size → x.cell? ⟨b, o, none⟩ = w.cell? ⟨b, o, none⟩ := fun b o h => by
  rw [hx.cell b o (Nat.lt_of_lt_of_le h hb.size) (fun h => h)]
  exact hb.cell (p := ⟨b, o, none⟩) h

def markU : U := { zeroU with id := 77 }
theorem own_more {α : Type} (f : α → List Value) (l : List α) (m : α) : l.flatMap f ++ f m = (l ++ [m]).flatMap f := by simp
def OwnN (g : G) (w W : World) (Z : World) (g2 cap : Nat) : Prop := Blk Z w.heap.size #[.int .i64 g.tick, .int .i64 g.g0, .int .i64 g.g1, .int .i64 g.next, .slice (some ⟨g2, 0, none⟩) g.us.length cap] ∧ Z.ownsRow W.heap.size 142 11 (.slice (some ⟨g2, 0, none⟩) (g.us.length + 1) cap) (g.us.length + 1) (cellsAllN g.us ++ [.int .i64 77, .int .i64 0, .int .i64 0, .int .i64 0, .int .i64 0, .int .i64 0, .int .i64 0, .int .i64 0, .int .i64 0, .int .i64 0, .int .i64 0]) ∧ Kp (fun b => b = w.heap.size) W Z ∧ g.us.length + 1 ≤ cap
theorem row_front {n : Bool} {B : Nat} {w : World} {a : Option Addr} {us : List U} {m : U} (h : URow n B w a (us ++ [m])) : URow n B w a us := fun i hi => by
  obtain ⟨b, o, h1, h2, h3⟩ := h i (by simp; omega)
  refine ⟨b, o, h1, h2, fun j hj => ?_⟩
  rw [h3 j hj]
  simp [List.getD, List.getElem?_append_left hi]
/-- What OwnNewer hands back. -/
def OwnNEnd (g : G) (w : World) (e : Ending) (w' : World) : Prop := ∃ g2 cap, e = .returned (.agg #[.int .i64 g.tick, .int .i64 g.g0, .int .i64 g.g1, .int .i64 g.next, .slice (some ⟨g2, 0, none⟩) g.us.length cap]) ∧ Below w.heap.size w w' ∧ URow true w'.heap.size w' (some ⟨g2, 0, none⟩) g.us ∧ g.us.length ≤ cap
set_option maxHeartbeats 6400000 in
set_option maxRecDepth 100000 in
theorem ownnewer_any (g : G) (ua : Option Addr) (cu : Nat) (hlu : g.us.length ≤ 100000) (w : World) (hu : URow true w.heap.size w ua g.us) :
    Calls Try.prog 34 #[.agg #[.int .i64 g.tick, .int .i64 g.g0, .int .i64 g.g1, .int .i64 g.next, .slice ua g.us.length cu]] w (OwnNEnd g w) := by
  obtain ⟨W, hW⟩ : ∃ W, (w.alloc (.cells #[.int .i64 g.tick, .int .i64 g.g0, .int .i64 g.g1, .int .i64 g.next, .slice ua g.us.length cu] 32)).alloc (.cells #[.int .i64 0, .int .i64 0, .int .i64 0, .int .i64 0, .slice none 0 0] 32) = W := ⟨_, rfl⟩
  have hbW : Below w.heap.size w W := by rw [← hW]; exact ((Below.refl _ _).alloc (Nat.le_refl _) _).alloc (by simp) _
  have k1 : Blk W w.heap.size #[.int .i64 g.tick, .int .i64 g.g0, .int .i64 g.g1, .int .i64 g.next, .slice ua g.us.length cu] := by rw [← hW]; exact (Blk.new w _ _).alloc _
  have k2 : Blk W (w.heap.size + 1) #[.int .i64 0, .int .i64 0, .int .i64 0, .int .i64 0, .slice none 0 0] := by
    rw [← hW]
    have := Blk.new (w.alloc (.cells #[.int .i64 g.tick, .int .i64 g.g0, .int .i64 g.g1, .int .i64 g.next, .slice ua g.us.length cu] 32)) #[.int .i64 0, .int .i64 0, .int .i64 0, .int .i64 0, .slice none 0 0] 32
    simpa using this
  obtain ⟨i0, hi0, hz0, hz1, hz2⟩ := info_parts infoUnit
  have l1 := k1.lt
  have l2 := k2.lt
  have hu0 : (0 : Int) ≤ (g.us.length : Int) := by omega
  have K1 := Lib.hid k1
  have K2 := Lib.hid k2
  have HB := Lib.hid hbW
  have HNEWS := Lib.hid (fun x (hx : Kp (fun _ => False) W x) h0 => news_N hu (oldcell hx hbW) h0)
  clear k1 k2 hbW hu
  go_enter Try.func34, Try.ntmps34
  go_upto_region 1 with fail
  try rw [hW]
  clear hW
  go_cut [1, 2] (fun s1 s2 wx => s1 = .pointer (some ⟨w.heap.size, 0, none⟩) ∧ s2 = .pointer (some ⟨w.heap.size + 1, 0, none⟩) ∧ ∃ g2 cap, OwnN g w W wx g2 cap)
  case first =>
    haveI := Kw.ne (fun _ => False) W
    have kx1 : ∀ (x : Kw (fun _ => False) W) (o : Nat), x.w.cell? ⟨w.heap.size, o, none⟩ = W.cell? ⟨w.heap.size, o, none⟩ := fun x o => x.cell _ _ l1 (fun h => h)
    have cW := K1.out.cell
    refine region_plan 10 (.read 0 (.read 1 (.read 3 (.read 6 (.read 7 (.read 8 (.fork 2 (.write 4 (.write 5 (.read 9 .done))) 4 (.write 2 (.write 5 (.read 9 .done)))))))))) (kcl (fun _ => False) W (fun _ => True) (fun _ _ _ _ => trivial)) ⟨Kp.drew _ _, trivial⟩ (by kernel_rfl) (by kernel_rfl) ?_
    iterate 6 (refine plan_read rfl ?_; refine mix_readK (fun K hK => ?_); go_simp; refine hK _ (mix_nil ?_); clear hK K)
    refine plan_fork ?_ ?_
    · refine plan_write rfl (mix_copy (.const (.slice none 0 0)) (.tmp 4) 30 142 i0 _ 11 88 rfl rfl Try.underlying30 hi0 hz0 hz1 hz2 rfl (by omega) ua g.us.length cu (cellsAllN g.us) (cellsAllN_length _) rfl rfl (fun x hx _ h0 => HNEWS.out x hx h0) (cellsAllN_one _) (by unfold maxLen; omega) (by omega) (fun ga gc => mix_nil ?_))
      refine plan_write rfl (mix_slice (fun q => .slice (some ⟨q, 0, none⟩) 1 1) #[.int .i64 77, .int .i64 0, .int .i64 0, .int .i64 0, .int .i64 0, .int .i64 0, .int .i64 0, .int .i64 0, .int .i64 0, .int .i64 0, .int .i64 0] 142 rfl (fun x => by simp [go_sem]) (fun p x => x.ownsRow W.heap.size 142 11 (.slice ga g.us.length gc) g.us.length (cellsAllN g.us) ∧ Blk x p #[.int .i64 77, .int .i64 0, .int .i64 0, .int .i64 0, .int .i64 0, .int .i64 0, .int .i64 0, .int .i64 0, .int .i64 0, .int .i64 0, .int .i64 0]) (fun p x x' h hb => ⟨own_kp h.1 (kp_of hb (fun _ => False)) (fun _ _ x => x), h.2.call hb⟩) (fun x p h _ hb => ⟨h.1, hb⟩) (fun p => mix_nil ?_))
      refine plan_write rfl (mix_grow p #[.int .i64 77, .int .i64 0, .int .i64 0, .int .i64 0, .int .i64 0, .int .i64 0, .int .i64 0, .int .i64 0, .int .i64 0, .int .i64 0, .int .i64 0] (.tmp 5) (.tmp 7) 30 rfl rfl 142 i0 _ 11 88 Try.underlying30 hi0 hz0 hz1 hz2 rfl (by omega) (.slice ga g.us.length gc) g.us.length (cellsAllN g.us) rfl rfl rfl (by simp [Value.oneCell']) (by unfold maxLen; omega) (by omega) (fun x h => ⟨h.1, h.2⟩) (fun g2 cap hcap => mix_nil ?_))
      have hc1 : g.us.length ≤ cap := by omega
      have hc2 : (g.us.length : Int) ≤ (cap : Int) := by omega
      refine plan_read rfl ?_; refine mix_readK (fun K hK => ?_); go_simp; refine hK _ (mix_nil ?_); clear hK K
      refine plan_done ?_
      rintro w1 ⟨k1, own1⟩
      have bk := K1.out.kp k1 (fun h => h)
      have cK := bk.cell
      have fK := bk.free
      have lK := bk.lt
      refine wpList_plain rfl (fun K hK => ?_); go_simp; refine hK _ _ ?_; clear hK K
      refine list_store1 w.heap.size 4 (.slice (some ⟨g2, 0, none⟩) g.us.length cap) 30 (.tmp 13) (.tmp 12) rfl rfl rfl rfl rfl (by rw [cK]; rfl) (fK 4) rfl (by kernel_rfl) (fun Z => OwnN g w W Z g2 cap) ⟨?_, ?_, ?_, hcap⟩ ?_
      · have := bk.store (.slice (some ⟨g2, 0, none⟩) g.us.length cap) (i := 4) (by simp)
        simpa using this
      · exact own_kp own1 (Kp.setCell w1 ⟨w.heap.size, 4, none⟩ _) (fun b hb e => by have h1 := (World.ownsRow.lt own1 b hb).1; have h2 : b = w.heap.size := e; omega)
      · exact (k1.imp (fun _ _ h => h.elim)).andset _ _ rfl
      rintro Z hZ
      go_wp2_with fail
      go_meet
      exact ⟨rfl, rfl, g2, cap, hZ⟩
    · refine plan_write rfl (mix_slice (fun q => .slice (some ⟨q, 0, none⟩) 1 1) #[.int .i64 77, .int .i64 0, .int .i64 0, .int .i64 0, .int .i64 0, .int .i64 0, .int .i64 0, .int .i64 0, .int .i64 0, .int .i64 0, .int .i64 0] 142 rfl (fun x => by simp [go_sem]) (fun p x => Blk x p #[.int .i64 77, .int .i64 0, .int .i64 0, .int .i64 0, .int .i64 0, .int .i64 0, .int .i64 0, .int .i64 0, .int .i64 0, .int .i64 0, .int .i64 0]) (fun p x x' h hb => h.call hb) (fun x p _ _ hb => hb) (fun p => mix_nil ?_))
      refine plan_write rfl (mix_copy (.const (.slice none 0 0)) (.tmp 4) 30 142 i0 _ 11 88 rfl rfl Try.underlying30 hi0 hz0 hz1 hz2 rfl (by omega) ua g.us.length cu (cellsAllN g.us) (cellsAllN_length _) rfl rfl (fun x hx _ h0 => HNEWS.out x hx h0) (cellsAllN_one _) (by unfold maxLen; omega) (by omega) (fun ga gc => mix_nil ?_))
      refine plan_write rfl (mix_grow p #[.int .i64 77, .int .i64 0, .int .i64 0, .int .i64 0, .int .i64 0, .int .i64 0, .int .i64 0, .int .i64 0, .int .i64 0, .int .i64 0, .int .i64 0] (.tmp 5) (.tmp 7) 30 rfl rfl 142 i0 _ 11 88 Try.underlying30 hi0 hz0 hz1 hz2 rfl (by omega) (.slice ga g.us.length gc) g.us.length (cellsAllN g.us) rfl rfl rfl (by simp [Value.oneCell']) (by unfold maxLen; omega) (by omega) (fun x h => ⟨h.1, h.2⟩) (fun g2 cap hcap => mix_nil ?_))
      have hc1 : g.us.length ≤ cap := by omega
      have hc2 : (g.us.length : Int) ≤ (cap : Int) := by omega
      refine plan_read rfl ?_; refine mix_readK (fun K hK => ?_); go_simp; refine hK _ (mix_nil ?_); clear hK K
      refine plan_done ?_
      rintro w1 ⟨k1, own1⟩
      have bk := K1.out.kp k1 (fun h => h)
      have cK := bk.cell
      have fK := bk.free
      have lK := bk.lt
      refine wpList_plain rfl (fun K hK => ?_); go_simp; refine hK _ _ ?_; clear hK K
      refine list_store1 w.heap.size 4 (.slice (some ⟨g2, 0, none⟩) g.us.length cap) 30 (.tmp 13) (.tmp 12) rfl rfl rfl rfl rfl (by rw [cK]; rfl) (fK 4) rfl (by kernel_rfl) (fun Z => OwnN g w W Z g2 cap) ⟨?_, ?_, ?_, hcap⟩ ?_
      · have := bk.store (.slice (some ⟨g2, 0, none⟩) g.us.length cap) (i := 4) (by simp)
        simpa using this
      · exact own_kp own1 (Kp.setCell w1 ⟨w.heap.size, 4, none⟩ _) (fun b hb e => by have h1 := (World.ownsRow.lt own1 b hb).1; have h2 : b = w.heap.size := e; omega)
      · exact (k1.imp (fun _ _ h => h.elim)).andset _ _ rfl
      rintro Z hZ
      go_wp2_with fail
      go_meet
      exact ⟨rfl, rfl, g2, cap, hZ⟩

  obtain ⟨h1, h2, g2, cap, hz, hown, hkp, hcap⟩ := hcut
  rw [h1, h2]
  have KZ := Lib.hid hz
  have KZ2 := Lib.hid (K2.out.kp hkp (by omega))
  have lZ := hz.lt
  have cZ := hz.cell
  have lZ2 := KZ2.out.lt
  have cZ2 := KZ2.out.cell
  have fZ2 := KZ2.out.free
  have HO := Lib.hid hown
  have HK := Lib.hid hkp
  clear h1 h2 hz hown hkp hi0 hz0 hz1 hz2
  go_wp2_with fail
  have X1 := KZ2.out.store5 rfl (.int .i64 g.tick) (.int .i64 g.g0) (.int .i64 g.g1) (.int .i64 g.next) (.slice (some ⟨g2, 0, none⟩) g.us.length cap)
  have XK : Kp (fun k => k = w.heap.size + 1) wc _ := (((((Kp.refl (fun k => k = w.heap.size + 1) wc).andset ⟨w.heap.size + 1, 0, none⟩ (.int .i64 g.tick) rfl).andset ⟨w.heap.size + 1, 1, none⟩ (.int .i64 g.g0) rfl).andset ⟨w.heap.size + 1, 2, none⟩ (.int .i64 g.g1) rfl).andset ⟨w.heap.size + 1, 3, none⟩ (.int .i64 g.next) rfl).andset ⟨w.heap.size + 1, 4, none⟩ (.slice (some ⟨g2, 0, none⟩) g.us.length cap) rfl
  refine bodyPost_ret (v := .agg #[.int .i64 g.tick, .int .i64 g.g0, .int .i64 g.g1, .int .i64 g.next, .slice (some ⟨g2, 0, none⟩) g.us.length cap]) (ret_cell (d := _) Try.results34 rfl X1 Try.underlying32 rfl infoNewer) rfl ?_
  have hsW := HB.out.size
  have hsK := HK.out.size
  refine ⟨g2, cap, rfl, ?_, ?_, by omega⟩
  · exact HB.out.trans (((HK.out.imp (fun _ _ h => Or.inl h)).trans (XK.imp (fun _ _ h => Or.inr h)) (fun _ _ h => h) : Kp (fun k => k = w.heap.size ∨ k = w.heap.size + 1) W _).below (fun k hk => by omega) hsW)
  · have o1 := own_kp HO.out XK (fun b hb e => by have := (World.ownsRow.lt HO.out b hb).1; omega)
    have e : cellsAllN g.us ++ [.int .i64 77, .int .i64 0, .int .i64 0, .int .i64 0, .int .i64 0, .int .i64 0, .int .i64 0, .int .i64 0, .int .i64 0, .int .i64 0, .int .i64 0] = cellsAllN (g.us ++ [markU]) := by
      have := own_more cellsN g.us markU
      exact this
    rw [e] at o1
    have hl : (g.us ++ [markU]).length = g.us.length + 1 := by simp
    rw [← hl] at o1
    obtain ⟨a, c, e1, -, hr, -⟩ := URow.of_ownN o1
    cases e1
    exact row_front hr

def OwnE1 (g : G) (fa : Option Addr) (cf : Nat) (w W : World) (Z : World) (g2 cap : Nat) : Prop := Blk Z w.heap.size #[.int .i64 g.tick, .int .i64 g.g0, .int .i64 g.g1, .int .i64 g.next, .slice fa g.free.length cf, .slice (some ⟨g2, 0, none⟩) g.us.length cap] ∧ Z.ownsRow W.heap.size 83 10 (.slice (some ⟨g2, 0, none⟩) (g.us.length + 1) cap) (g.us.length + 1) (cellsAll g.us ++ [.int .i64 77, .int .i64 0, .int .i64 0, .int .i64 0, .int .i64 0, .int .i64 0, .int .i64 0, .int .i64 0, .int .i64 0, .int .i64 0]) ∧ Kp (fun b => b = w.heap.size) W Z ∧ g.us.length + 1 ≤ cap
def OwnE2 (g : G) (uva ucap : Nat) (w W : World) (Z : World) (g2 cap : Nat) : Prop := Blk Z w.heap.size #[.int .i64 g.tick, .int .i64 g.g0, .int .i64 g.g1, .int .i64 g.next, .slice (some ⟨g2, 0, none⟩) g.free.length cap, .slice (some ⟨uva, 0, none⟩) g.us.length ucap] ∧ Z.ownsRow W.heap.size 3 1 (.slice (some ⟨g2, 0, none⟩) (g.free.length + 1) cap) (g.free.length + 1) (intCells g.free ++ [.int .i64 77]) ∧ Kp (fun b => b = w.heap.size) W Z ∧ g.free.length + 1 ≤ cap
/-- What OwnElder hands back. -/
def OwnEEnd (g : G) (w : World) (e : Ending) (w' : World) : Prop := ∃ g3 cap3 g2 cap, e = .returned (.agg #[.int .i64 g.tick, .int .i64 g.g0, .int .i64 g.g1, .int .i64 g.next, .slice (some ⟨g3, 0, none⟩) g.free.length cap3, .slice (some ⟨g2, 0, none⟩) g.us.length cap]) ∧ Below w.heap.size w w' ∧ Row w'.heap.size w' (some ⟨g3, 0, none⟩) g.free.length (fun k => .int .i64 (g.free.getD k 0)) ∧ URow false w'.heap.size w' (some ⟨g2, 0, none⟩) g.us ∧ g.free.length ≤ cap3 ∧ g.us.length ≤ cap
set_option maxHeartbeats 6400000 in
set_option maxRecDepth 100000 in
theorem ownelder_any (g : G) (fa ua : Option Addr) (cf cu : Nat) (hlf : g.free.length ≤ 100000) (hlu : g.us.length ≤ 100000) (w : World) (hf : Row w.heap.size w fa g.free.length (fun k => .int .i64 (g.free.getD k 0))) (hu : URow false w.heap.size w ua g.us) :
    Calls Try.prog 28 #[.agg #[.int .i64 g.tick, .int .i64 g.g0, .int .i64 g.g1, .int .i64 g.next, .slice fa g.free.length cf, .slice ua g.us.length cu]] w (OwnEEnd g w) := by
  obtain ⟨W, hW⟩ : ∃ W, (w.alloc (.cells #[.int .i64 g.tick, .int .i64 g.g0, .int .i64 g.g1, .int .i64 g.next, .slice fa g.free.length cf, .slice ua g.us.length cu] 26)).alloc (.cells #[.int .i64 0, .int .i64 0, .int .i64 0, .int .i64 0, .slice none 0 0, .slice none 0 0] 26) = W := ⟨_, rfl⟩
  have hbW : Below w.heap.size w W := by rw [← hW]; exact ((Below.refl _ _).alloc (Nat.le_refl _) _).alloc (by simp) _
  have k1 : Blk W w.heap.size #[.int .i64 g.tick, .int .i64 g.g0, .int .i64 g.g1, .int .i64 g.next, .slice fa g.free.length cf, .slice ua g.us.length cu] := by rw [← hW]; exact (Blk.new w _ _).alloc _
  have k2 : Blk W (w.heap.size + 1) #[.int .i64 0, .int .i64 0, .int .i64 0, .int .i64 0, .slice none 0 0, .slice none 0 0] := by
    rw [← hW]
    have := Blk.new (w.alloc (.cells #[.int .i64 g.tick, .int .i64 g.g0, .int .i64 g.g1, .int .i64 g.next, .slice fa g.free.length cf, .slice ua g.us.length cu] 26)) #[.int .i64 0, .int .i64 0, .int .i64 0, .int .i64 0, .slice none 0 0, .slice none 0 0] 26
    simpa using this
  obtain ⟨i0, hi0, hz0, hz1, hz2⟩ := info_parts infoEnt
  obtain ⟨j0, hj0, hy0, hy1, hy2⟩ := info_parts infoInt
  have l1 := k1.lt
  have l2 := k2.lt
  have hu0 : (0 : Int) ≤ (g.us.length : Int) := by omega
  have hf0 : (0 : Int) ≤ (g.free.length : Int) := by omega
  have K1 := Lib.hid k1
  have K2 := Lib.hid k2
  have HB := Lib.hid hbW
  have HNEWS := Lib.hid (fun x (hx : Kp (fun _ => False) W x) h0 => news_E hu (oldcell hx hbW) h0)
  have HF := Lib.hid hf
  clear k1 k2 hbW hu hf
  go_enter Try.func28, Try.ntmps28
  go_upto_region 1 with fail
  try rw [hW]
  clear hW
  go_cut [1, 2] (fun s1 s2 wx => s1 = .pointer (some ⟨w.heap.size, 0, none⟩) ∧ s2 = .pointer (some ⟨w.heap.size + 1, 0, none⟩) ∧ ∃ g2 cap, OwnE1 g fa cf w W wx g2 cap)
  case first =>
    haveI := Kw.ne (fun _ => False) W
    have kx1 : ∀ (x : Kw (fun _ => False) W) (o : Nat), x.w.cell? ⟨w.heap.size, o, none⟩ = W.cell? ⟨w.heap.size, o, none⟩ := fun x o => x.cell _ _ l1 (fun h => h)
    have cW := K1.out.cell
    refine region_plan 10 (.read 0 (.read 1 (.read 3 (.read 6 (.read 7 (.read 8 (.fork 2 (.write 4 (.write 5 (.read 9 .done))) 4 (.write 2 (.write 5 (.read 9 .done)))))))))) (kcl (fun _ => False) W (fun _ => True) (fun _ _ _ _ => trivial)) ⟨Kp.drew _ _, trivial⟩ (by kernel_rfl) (by kernel_rfl) ?_
    iterate 6 (refine plan_read rfl ?_; refine mix_readK (fun K hK => ?_); go_simp; refine hK _ (mix_nil ?_); clear hK K)
    refine plan_fork ?_ ?_
    · refine plan_write rfl (mix_copy (.const (.slice none 0 0)) (.tmp 4) 24 83 i0 _ 10 80 rfl rfl Try.underlying24 hi0 hz0 hz1 hz2 rfl (by omega) ua g.us.length cu (cellsAll g.us) (cellsAll_length _) rfl rfl (fun x hx _ h0 => HNEWS.out x hx h0) (cellsAll_one _) (by unfold maxLen; omega) (by omega) (fun ga gc => mix_nil ?_))
      refine plan_write rfl (mix_slice (fun q => .slice (some ⟨q, 0, none⟩) 1 1) #[.int .i64 77, .int .i64 0, .int .i64 0, .int .i64 0, .int .i64 0, .int .i64 0, .int .i64 0, .int .i64 0, .int .i64 0, .int .i64 0] 83 rfl (fun x => by simp [go_sem]) (fun p x => x.ownsRow W.heap.size 83 10 (.slice ga g.us.length gc) g.us.length (cellsAll g.us) ∧ Blk x p #[.int .i64 77, .int .i64 0, .int .i64 0, .int .i64 0, .int .i64 0, .int .i64 0, .int .i64 0, .int .i64 0, .int .i64 0, .int .i64 0]) (fun p x x' h hb => ⟨own_kp h.1 (kp_of hb (fun _ => False)) (fun _ _ x => x), h.2.call hb⟩) (fun x p h _ hb => ⟨h.1, hb⟩) (fun p => mix_nil ?_))
      refine plan_write rfl (mix_grow p #[.int .i64 77, .int .i64 0, .int .i64 0, .int .i64 0, .int .i64 0, .int .i64 0, .int .i64 0, .int .i64 0, .int .i64 0, .int .i64 0] (.tmp 5) (.tmp 7) 24 rfl rfl 83 i0 _ 10 80 Try.underlying24 hi0 hz0 hz1 hz2 rfl (by omega) (.slice ga g.us.length gc) g.us.length (cellsAll g.us) rfl rfl rfl (by simp [Value.oneCell']) (by unfold maxLen; omega) (by omega) (fun x h => ⟨h.1, h.2⟩) (fun g2 cap hcap => mix_nil ?_))
      have hc1 : g.us.length ≤ cap := by omega
      have hc2 : (g.us.length : Int) ≤ (cap : Int) := by omega
      refine plan_read rfl ?_; refine mix_readK (fun K hK => ?_); go_simp; refine hK _ (mix_nil ?_); clear hK K
      refine plan_done ?_
      rintro w1 ⟨k1, own1⟩
      have bk := K1.out.kp k1 (fun h => h)
      have cK := bk.cell
      have fK := bk.free
      have lK := bk.lt
      refine wpList_plain rfl (fun K hK => ?_); go_simp; refine hK _ _ ?_; clear hK K
      refine list_store1 w.heap.size 5 (.slice (some ⟨g2, 0, none⟩) g.us.length cap) 24 (.tmp 13) (.tmp 12) rfl rfl rfl rfl rfl (by rw [cK]; rfl) (fK 5) rfl (by kernel_rfl) (fun Z => OwnE1 g fa cf w W Z g2 cap) ⟨?_, ?_, ?_, hcap⟩ ?_
      · have := bk.store (.slice (some ⟨g2, 0, none⟩) g.us.length cap) (i := 5) (by simp)
        simpa using this
      · exact own_kp own1 (Kp.setCell w1 ⟨w.heap.size, 5, none⟩ _) (fun b hb e => by have h1 := (World.ownsRow.lt own1 b hb).1; have h2 : b = w.heap.size := e; omega)
      · exact (k1.imp (fun _ _ h => h.elim)).andset _ _ rfl
      rintro Z hZ
      go_wp2_with fail
      go_meet
      exact ⟨rfl, rfl, g2, cap, hZ⟩
    · refine plan_write rfl (mix_slice (fun q => .slice (some ⟨q, 0, none⟩) 1 1) #[.int .i64 77, .int .i64 0, .int .i64 0, .int .i64 0, .int .i64 0, .int .i64 0, .int .i64 0, .int .i64 0, .int .i64 0, .int .i64 0] 83 rfl (fun x => by simp [go_sem]) (fun p x => Blk x p #[.int .i64 77, .int .i64 0, .int .i64 0, .int .i64 0, .int .i64 0, .int .i64 0, .int .i64 0, .int .i64 0, .int .i64 0, .int .i64 0]) (fun p x x' h hb => h.call hb) (fun x p _ _ hb => hb) (fun p => mix_nil ?_))
      refine plan_write rfl (mix_copy (.const (.slice none 0 0)) (.tmp 4) 24 83 i0 _ 10 80 rfl rfl Try.underlying24 hi0 hz0 hz1 hz2 rfl (by omega) ua g.us.length cu (cellsAll g.us) (cellsAll_length _) rfl rfl (fun x hx _ h0 => HNEWS.out x hx h0) (cellsAll_one _) (by unfold maxLen; omega) (by omega) (fun ga gc => mix_nil ?_))
      refine plan_write rfl (mix_grow p #[.int .i64 77, .int .i64 0, .int .i64 0, .int .i64 0, .int .i64 0, .int .i64 0, .int .i64 0, .int .i64 0, .int .i64 0, .int .i64 0] (.tmp 5) (.tmp 7) 24 rfl rfl 83 i0 _ 10 80 Try.underlying24 hi0 hz0 hz1 hz2 rfl (by omega) (.slice ga g.us.length gc) g.us.length (cellsAll g.us) rfl rfl rfl (by simp [Value.oneCell']) (by unfold maxLen; omega) (by omega) (fun x h => ⟨h.1, h.2⟩) (fun g2 cap hcap => mix_nil ?_))
      have hc1 : g.us.length ≤ cap := by omega
      have hc2 : (g.us.length : Int) ≤ (cap : Int) := by omega
      refine plan_read rfl ?_; refine mix_readK (fun K hK => ?_); go_simp; refine hK _ (mix_nil ?_); clear hK K
      refine plan_done ?_
      rintro w1 ⟨k1, own1⟩
      have bk := K1.out.kp k1 (fun h => h)
      have cK := bk.cell
      have fK := bk.free
      have lK := bk.lt
      refine wpList_plain rfl (fun K hK => ?_); go_simp; refine hK _ _ ?_; clear hK K
      refine list_store1 w.heap.size 5 (.slice (some ⟨g2, 0, none⟩) g.us.length cap) 24 (.tmp 13) (.tmp 12) rfl rfl rfl rfl rfl (by rw [cK]; rfl) (fK 5) rfl (by kernel_rfl) (fun Z => OwnE1 g fa cf w W Z g2 cap) ⟨?_, ?_, ?_, hcap⟩ ?_
      · have := bk.store (.slice (some ⟨g2, 0, none⟩) g.us.length cap) (i := 5) (by simp)
        simpa using this
      · exact own_kp own1 (Kp.setCell w1 ⟨w.heap.size, 5, none⟩ _) (fun b hb e => by have h1 := (World.ownsRow.lt own1 b hb).1; have h2 : b = w.heap.size := e; omega)
      · exact (k1.imp (fun _ _ h => h.elim)).andset _ _ rfl
      rintro Z hZ
      go_wp2_with fail
      go_meet
      exact ⟨rfl, rfl, g2, cap, hZ⟩

  obtain ⟨wd, rfl⟩ : ∃ x, x = wc := ⟨_, rfl⟩
  obtain ⟨h1, h2, uva, ucap, hz, hownu, hkp, hucap⟩ := hcut
  rw [h1, h2]
  have KZ := Lib.hid hz
  have KZ2 := Lib.hid (K2.out.kp hkp (by omega))
  have lZ := hz.lt
  have lZ2 := KZ2.out.lt
  have HOU := Lib.hid hownu
  have HK := Lib.hid hkp
  have HNEWF := Lib.hid (fun x (hx : Kp (fun _ => False) wd x) h0 => news_int (x := x) rfl HF.out (fun b o hb => by
    rw [hx.cell b o (by have := HB.out.size; have := hkp.size; omega) (fun h => h), hkp.cell b o (by have := HB.out.size; omega) (by omega)]
    exact HB.out.cell (p := ⟨b, o, none⟩) hb) h0)
  clear h1 h2 hz hownu hkp
  go_upto_region 2 with fail
  go_cut [1, 2] (fun s1 s2 wx => s1 = .pointer (some ⟨w.heap.size, 0, none⟩) ∧ s2 = .pointer (some ⟨w.heap.size + 1, 0, none⟩) ∧ ∃ g2 cap, OwnE2 g uva ucap w wd wx g2 cap)
  case first =>
    haveI := Kw.ne (fun _ => False) wd
    have kx1 : ∀ (x : Kw (fun _ => False) wd) (o : Nat), x.w.cell? ⟨w.heap.size, o, none⟩ = wd.cell? ⟨w.heap.size, o, none⟩ := fun x o => x.cell _ _ lZ (fun h => h)
    have cW := KZ.out.cell
    refine region_plan 9 (.read 0 (.read 1 (.read 5 (.read 6 (.read 7 (.fork 2 (.write 3 (.write 4 (.read 8 .done))) 3 (.write 2 (.write 4 (.read 8 .done))))))))) (kcl (fun _ => False) wd (fun _ => True) (fun _ _ _ _ => trivial)) ⟨Kp.drew _ _, trivial⟩ (by kernel_rfl) (by kernel_rfl) ?_
    iterate 5 (refine plan_read rfl ?_; refine mix_readK (fun K hK => ?_); go_simp; refine hK _ (mix_nil ?_); clear hK K)
    refine plan_fork ?_ ?_
    · refine plan_write rfl (mix_copy (.const (.slice none 0 0)) (.tmp 15) 23 3 j0 _ 1 8 rfl rfl Try.underlying23 hj0 hy0 hy1 hy2 rfl (by omega) fa g.free.length cf (intCells g.free) (by simp [intCells]) rfl rfl (fun x hx _ h0 => HNEWF.out x hx h0) int_one (by unfold maxLen; omega) (by omega) (fun ga gc => mix_nil ?_))
      refine plan_write rfl (mix_slice (fun q => .slice (some ⟨q, 0, none⟩) 1 1) #[.int .i64 77] 3 rfl (fun x => by simp [go_sem]) (fun p x => x.ownsRow wd.heap.size 3 1 (.slice ga g.free.length gc) g.free.length (intCells g.free) ∧ Blk x p #[.int .i64 77]) (fun p x x' h hb => ⟨own_kp h.1 (kp_of hb (fun _ => False)) (fun _ _ x => x), h.2.call hb⟩) (fun x p h _ hb => ⟨h.1, hb⟩) (fun p => mix_nil ?_))
      refine plan_write rfl (mix_grow p #[.int .i64 77] (.tmp 16) (.tmp 17) 23 rfl rfl 3 j0 _ 1 8 Try.underlying23 hj0 hy0 hy1 hy2 rfl (by omega) (.slice ga g.free.length gc) g.free.length (intCells g.free) rfl rfl rfl (by simp [Value.oneCell']) (by unfold maxLen; omega) (by omega) (fun x h => ⟨h.1, h.2⟩) (fun g2 cap hcap => mix_nil ?_))
      have hc1 : g.free.length ≤ cap := by omega
      have hc2 : (g.free.length : Int) ≤ (cap : Int) := by omega
      refine plan_read rfl ?_; refine mix_readK (fun K hK => ?_); go_simp; refine hK _ (mix_nil ?_); clear hK K
      refine plan_done ?_
      rintro w1 ⟨k1, own1⟩
      have bk := KZ.out.kp k1 (fun h => h)
      have cK := bk.cell
      have fK := bk.free
      have lK := bk.lt
      refine wpList_plain rfl (fun K hK => ?_); go_simp; refine hK _ _ ?_; clear hK K
      refine list_store1 w.heap.size 4 (.slice (some ⟨g2, 0, none⟩) g.free.length cap) 23 (.tmp 23) (.tmp 22) rfl rfl rfl rfl rfl (by rw [cK]; rfl) (fK 4) rfl (by kernel_rfl) (fun Z => OwnE2 g uva ucap w wd Z g2 cap) ⟨?_, ?_, ?_, hcap⟩ ?_
      · have := bk.store (.slice (some ⟨g2, 0, none⟩) g.free.length cap) (i := 4) (by simp)
        simpa using this
      · exact own_kp own1 (Kp.setCell w1 ⟨w.heap.size, 4, none⟩ _) (fun b hb e => by have h1 := (World.ownsRow.lt own1 b hb).1; have h2 : b = w.heap.size := e; omega)
      · exact (k1.imp (fun _ _ h => h.elim)).andset _ _ rfl
      rintro Z hZ
      go_wp2_with fail
      go_meet
      exact ⟨rfl, rfl, g2, cap, hZ⟩
    · refine plan_write rfl (mix_slice (fun q => .slice (some ⟨q, 0, none⟩) 1 1) #[.int .i64 77] 3 rfl (fun x => by simp [go_sem]) (fun p x => Blk x p #[.int .i64 77]) (fun p x x' h hb => h.call hb) (fun x p _ _ hb => hb) (fun p => mix_nil ?_))
      refine plan_write rfl (mix_copy (.const (.slice none 0 0)) (.tmp 15) 23 3 j0 _ 1 8 rfl rfl Try.underlying23 hj0 hy0 hy1 hy2 rfl (by omega) fa g.free.length cf (intCells g.free) (by simp [intCells]) rfl rfl (fun x hx _ h0 => HNEWF.out x hx h0) int_one (by unfold maxLen; omega) (by omega) (fun ga gc => mix_nil ?_))
      refine plan_write rfl (mix_grow p #[.int .i64 77] (.tmp 16) (.tmp 17) 23 rfl rfl 3 j0 _ 1 8 Try.underlying23 hj0 hy0 hy1 hy2 rfl (by omega) (.slice ga g.free.length gc) g.free.length (intCells g.free) rfl rfl rfl (by simp [Value.oneCell']) (by unfold maxLen; omega) (by omega) (fun x h => ⟨h.1, h.2⟩) (fun g2 cap hcap => mix_nil ?_))
      have hc1 : g.free.length ≤ cap := by omega
      have hc2 : (g.free.length : Int) ≤ (cap : Int) := by omega
      refine plan_read rfl ?_; refine mix_readK (fun K hK => ?_); go_simp; refine hK _ (mix_nil ?_); clear hK K
      refine plan_done ?_
      rintro w1 ⟨k1, own1⟩
      have bk := KZ.out.kp k1 (fun h => h)
      have cK := bk.cell
      have fK := bk.free
      have lK := bk.lt
      refine wpList_plain rfl (fun K hK => ?_); go_simp; refine hK _ _ ?_; clear hK K
      refine list_store1 w.heap.size 4 (.slice (some ⟨g2, 0, none⟩) g.free.length cap) 23 (.tmp 23) (.tmp 22) rfl rfl rfl rfl rfl (by rw [cK]; rfl) (fK 4) rfl (by kernel_rfl) (fun Z => OwnE2 g uva ucap w wd Z g2 cap) ⟨?_, ?_, ?_, hcap⟩ ?_
      · have := bk.store (.slice (some ⟨g2, 0, none⟩) g.free.length cap) (i := 4) (by simp)
        simpa using this
      · exact own_kp own1 (Kp.setCell w1 ⟨w.heap.size, 4, none⟩ _) (fun b hb e => by have h1 := (World.ownsRow.lt own1 b hb).1; have h2 : b = w.heap.size := e; omega)
      · exact (k1.imp (fun _ _ h => h.elim)).andset _ _ rfl
      rintro Z hZ
      go_wp2_with fail
      go_meet
      exact ⟨rfl, rfl, g2, cap, hZ⟩

  obtain ⟨h1, h2, g3, cap3, hz, hownf, hkp, hfcap⟩ := hcut
  rw [h1, h2]
  have KY := Lib.hid hz
  have KY2 := Lib.hid (KZ2.out.kp hkp (by omega))
  have lY := hz.lt
  have cY := hz.cell
  have lY2 := KY2.out.lt
  have cY2 := KY2.out.cell
  have fY2 := KY2.out.free
  have HOF := Lib.hid hownf
  have HK2 := Lib.hid hkp
  clear h1 h2 hz hownf hkp hi0 hz0 hz1 hz2 hj0 hy0 hy1 hy2
  go_wp2_with fail
  have X1 := KY2.out.store6 rfl (.int .i64 g.tick) (.int .i64 g.g0) (.int .i64 g.g1) (.int .i64 g.next) (.slice (some ⟨g3, 0, none⟩) g.free.length cap3) (.slice (some ⟨uva, 0, none⟩) g.us.length ucap)
  have XK : Kp (fun k => k = w.heap.size + 1) wc _ := ((((((Kp.refl (fun k => k = w.heap.size + 1) wc).andset ⟨w.heap.size + 1, 0, none⟩ (.int .i64 g.tick) rfl).andset ⟨w.heap.size + 1, 1, none⟩ (.int .i64 g.g0) rfl).andset ⟨w.heap.size + 1, 2, none⟩ (.int .i64 g.g1) rfl).andset ⟨w.heap.size + 1, 3, none⟩ (.int .i64 g.next) rfl).andset ⟨w.heap.size + 1, 4, none⟩ (.slice (some ⟨g3, 0, none⟩) g.free.length cap3) rfl).andset ⟨w.heap.size + 1, 5, none⟩ (.slice (some ⟨uva, 0, none⟩) g.us.length ucap) rfl
  refine bodyPost_ret (v := .agg #[.int .i64 g.tick, .int .i64 g.g0, .int .i64 g.g1, .int .i64 g.next, .slice (some ⟨g3, 0, none⟩) g.free.length cap3, .slice (some ⟨uva, 0, none⟩) g.us.length ucap]) (ret_cell (d := _) Try.results28 rfl X1 Try.underlying26 rfl infoElder) rfl ?_
  have hsW := HB.out.size
  have hsK := HK.out.size
  have hsK2 := HK2.out.size
  have kk : Kp (fun k => k = w.heap.size ∨ k = w.heap.size + 1) wd _ := (HK2.out.imp (fun _ _ h => Or.inl h)).trans (XK.imp (fun _ _ h => Or.inr h)) (fun _ _ h => h)
  refine ⟨g3, cap3, uva, ucap, rfl, ?_, ?_, ?_, by omega, by omega⟩
  · exact HB.out.trans (((HK.out.imp (fun _ _ h => Or.inl h)).trans kk (fun _ _ h => h) : Kp (fun k => k = w.heap.size ∨ k = w.heap.size + 1) W _).below (fun k hk => by omega) hsW)
  · have o1 := own_kp HOF.out XK (fun b hb e => by have := (World.ownsRow.lt HOF.out b hb).1; omega)
    have e : intCells g.free ++ [.int .i64 77] = intCells (g.free ++ [77]) := by simp [intCells]
    rw [e] at o1
    have hr := ints_in (by simp) o1
    intro k hk
    obtain ⟨b, o, h1, h2, h3⟩ := hr k (by omega)
    refine ⟨b, o, h1, h2, ?_⟩
    rw [h3]
    simp [List.getD, List.getElem?_append_left hk]
  · have o1 := own_kp HOU.out kk (fun b hb e => by have := (World.ownsRow.lt HOU.out b hb).1; omega)
    have e : cellsAll g.us ++ [.int .i64 77, .int .i64 0, .int .i64 0, .int .i64 0, .int .i64 0, .int .i64 0, .int .i64 0, .int .i64 0, .int .i64 0, .int .i64 0] = cellsAll (g.us ++ [markU]) := by
      have := own_more cellsE g.us markU
      exact this
    rw [e] at o1
    have hl : (g.us ++ [markU]).length = g.us.length + 1 := by simp
    rw [← hl] at o1
    obtain ⟨a, c, e1, -, hr, -⟩ := URow.of_own o1
    cases e1
    exact row_front hr

end Go.Proofs.Ytlfljlhppigejab
