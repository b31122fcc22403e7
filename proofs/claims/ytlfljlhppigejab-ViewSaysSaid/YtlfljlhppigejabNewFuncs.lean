/-
  The walks of newer.Check's closures, of the library's ContainsFunc and IndexFunc at them, of newer.task.
-/
import Derived.Test.YtlfljlhppigejabPackBase
import Derived.Test.YtlfljlhppigejabPackSmall
import Derived.Test.YtlfljlhppigejabRulesWalk
import Derived.Deep.Light
import Derived.Deep.DeepCutAuto
namespace Go.Proofs.Ytlfljlhppigejab
open Go.RowKit

def goldBad (n : Int) : Bool := decide (n < 0) || decide (1000 < n)
set_option maxHeartbeats 400000 in
theorem chk1_any (n : Int) (w : World) : Calls Try.prog 93 #[.int .i64 n] w fun e w' => e = .returned (.bool (goldBad n)) ∧ w = w' := by
  go_enter Try.func93, Try.ntmps93
  go_wp2_with fail
  all_goals
    go_ret
    refine ⟨ret1 (boolv ?_), rfl⟩
    unfold goldBad
    go_light
    simp_all

def BoolSome (p : Prop) (w : World) (e : Ending) (w' : World) : Prop := ∃ b : Bool, e = .returned (.bool b) ∧ (b = true ↔ p) ∧ Below w.heap.size w w'
def IxSome (p : Prop) (w : World) (e : Ending) (w' : World) : Prop := ∃ r : Int, e = .returned (.int .i64 r) ∧ (0 ≤ r ↔ p) ∧ Below w.heap.size w w'

set_option maxHeartbeats 400000 in
set_option maxRecDepth 100000 in
theorem idx_int (a : Option Addr) (n c : Nat) (hn : n ≤ 100000) (f : Nat → Int) (w : World) (hr : Row w.heap.size w a n (fun k => .int .i64 (f k))) :
    Calls Try.prog 114 #[.slice a n c, .func (.func 93) #[] #[]] w (IxSome (∃ k, k < n ∧ goldBad (f k) = true) w) := by
  have HR := Lib.hid hr
  clear hr
  go_enter Try.func114, Try.ntmps114
  go_wp2_with fail
  go_loopw [8] (fun i wr => ∃ k : Nat, i = .int .i64 k ∧ k ≤ n ∧ ((∀ j, j < k → goldBad (f j) = false) ∧ w = wr)) (fun i _ => (n - intOf i).toNat)
  case atStart => exact ⟨0, rfl, by omega, fun j hj => absurd hj (by omega), rfl⟩
  case round =>
    obtain ⟨k, rfl, hk, hX, rfl⟩ := hrel
    have HX := Lib.hid hX
    clear hX
    by_cases hlt : k < n
    · obtain ⟨b, o, rfl, hb, hc⟩ := HR.out k hlt
      by_cases hg : goldBad (f k) = true
      · go_wp2_with fail
        refine (chk1_any _ _).mono ?_
        rintro e w' ⟨rfl, rfl⟩
        rw [hg]
        have HG := Lib.hid hg
        clear hg
        go_wp2_with fail
        go_ret
        exact ⟨k, rfl, ⟨fun _ => ⟨k, hlt, HG.out⟩, fun _ => by omega⟩, Below.refl _ _⟩
      · have hg' : goldBad (f k) = false := by simpa using hg
        clear hg
        go_wp2_with fail
        refine (chk1_any _ _).mono ?_
        rintro e w' ⟨rfl, rfl⟩
        rw [hg']
        have HG := Lib.hid hg'
        clear hg'
        go_wp2_with fail
        go_roundw
        case rel =>
          refine ⟨k + 1, by go_num, by omega, ?_, trivial⟩
          intro j hj
          by_cases e : j = k
          · rw [e]; exact HG.out
          · exact HX.out j (by omega)
        case measure => simp [intOf]; omega
    · go_wp2_with fail
      go_ret
      refine ⟨-1, rfl, ⟨fun h => absurd h (by omega), ?_⟩, Below.refl _ _⟩
      rintro ⟨j, hj, hg⟩
      rw [HX.out j (by omega)] at hg
      cases hg

set_option maxHeartbeats 400000 in
theorem cont_int (a : Option Addr) (n c : Nat) (hn : n ≤ 100000) (f : Nat → Int) (w : World) (hr : Row w.heap.size w a n (fun k => .int .i64 (f k))) :
    Calls Try.prog 92 #[.slice a n c, .func (.func 93) #[] #[]] w (BoolSome (∃ k, k < n ∧ goldBad (f k) = true) w) := by
  have HR := Lib.hid hr
  clear hr
  go_enter Try.func92, Try.ntmps92
  go_wp2_with fail
  refine (idx_int a n c hn f w HR.out).mono ?_
  rintro e w1 ⟨r, rfl, h1, h2⟩
  have H1 := Lib.hid h1
  have H2 := Lib.hid h2
  clear h1 h2
  go_wp2_with fail
  go_ret
  exact ⟨_, rfl, (by simp; exact H1.out), H2.out⟩

set_option maxHeartbeats 400000 in
set_option maxRecDepth 100000 in
theorem chk2_any (S : Nat) (o u : U) (w : World) (hS : S < w.heap.size) (h3 : w.cell? ⟨S, 3, none⟩ = some (.int .i64 u.x)) (h4 : w.cell? ⟨S, 4, none⟩ = some (.int .i64 u.y)) :
    Calls Try.prog 96 #[.agg #[.int .i64 o.id, .int .i64 o.owner, .int .i64 o.kind, .int .i64 o.x, .int .i64 o.y, .int .i64 o.hp, .int .i64 o.does, .int .i64 o.gx, .int .i64 o.gy, .int .i64 o.target, .int .i64 o.since], .pointer (some ⟨S, 0, none⟩)] w
      fun e w' => e = .returned (.bool (o.x == u.x && o.y == u.y)) ∧ Below w.heap.size w w' := by
  have hS2 : S ≠ w.heap.size := by omega
  go_enter Try.func96, Try.ntmps96
  go_wp2_with fail
  all_goals
    go_ret
    refine ⟨ret1 (boolv ?_), (Below.refl _ _).alloc (Nat.le_refl _) _⟩
    simp_all

theorem URow.getN {B : Nat} {w : World} {a : Option Addr} {us : List U} (h : URow true B w a us) (i : Nat) (hi : i < us.length) (u : U) (hu : us.getD i zeroU = u) :
    ∃ b o, a = some ⟨b, o, none⟩ ∧ b < B ∧ w.cell? ⟨b, o + i * 11, none⟩ = some (.int .i64 u.id) ∧ w.cell? ⟨b, o + i * 11 + 1, none⟩ = some (.int .i64 u.owner) ∧ w.cell? ⟨b, o + i * 11 + 2, none⟩ = some (.int .i64 u.kind) ∧
      w.cell? ⟨b, o + i * 11 + 3, none⟩ = some (.int .i64 u.x) ∧ w.cell? ⟨b, o + i * 11 + 4, none⟩ = some (.int .i64 u.y) ∧ w.cell? ⟨b, o + i * 11 + 5, none⟩ = some (.int .i64 u.hp) ∧ w.cell? ⟨b, o + i * 11 + 6, none⟩ = some (.int .i64 u.does) ∧
      w.cell? ⟨b, o + i * 11 + 7, none⟩ = some (.int .i64 u.gx) ∧ w.cell? ⟨b, o + i * 11 + 8, none⟩ = some (.int .i64 u.gy) ∧ w.cell? ⟨b, o + i * 11 + 9, none⟩ = some (.int .i64 u.target) ∧ w.cell? ⟨b, o + i * 11 + 10, none⟩ = some (.int .i64 u.since) := by
  obtain ⟨b, o, h1, h2, h3⟩ := h i hi
  rw [hu] at h3
  exact ⟨b, o, h1, h2, h3 0 (by decide), h3 1 (by decide), h3 2 (by decide), h3 3 (by decide), h3 4 (by decide), h3 5 (by decide), h3 6 (by decide), h3 7 (by decide), h3 8 (by decide), h3 9 (by decide), h3 10 (by decide)⟩

set_option maxHeartbeats 800000 in
set_option maxRecDepth 100000 in
theorem idx_unit (a : Option Addr) (n c : Nat) (hn : n ≤ 100000) (us : List U) (hl : us.length = n) (u : U) (S : Nat) (w : World) (hr : URow true w.heap.size w a us) (hS : S < w.heap.size) (h3 : w.cell? ⟨S, 3, none⟩ = some (.int .i64 u.x)) (h4 : w.cell? ⟨S, 4, none⟩ = some (.int .i64 u.y)) :
    Calls Try.prog 116 #[.slice a n c, .func (.func 96) #[] #[.pointer (some ⟨S, 0, none⟩)]] w (IxSome (standsAt us u.x u.y = true) w) := by
  have HR := Lib.hid hr
  have HL := Lib.hid hl
  have H3 := Lib.hid h3
  have H4 := Lib.hid h4
  clear hr h3 h4 hl
  go_enter Try.func116, Try.ntmps116
  go_wp2_with fail
  go_loopw [8] (fun i wr => ∃ k : Nat, i = .int .i64 k ∧ k ≤ n ∧ ((∀ j, j < k → ((us.getD j zeroU).x == u.x && (us.getD j zeroU).y == u.y) = false) ∧ Below w.heap.size w wr)) (fun i _ => (n - intOf i).toNat)
  case atStart => exact ⟨0, rfl, by omega, fun j hj => absurd hj (by omega), Below.refl _ _⟩
  case round =>
    obtain ⟨k, rfl, hk, hX⟩ := hrel
    have HX := Lib.hid hX
    clear hX
    by_cases hlt : k < n
    · obtain ⟨v, hv⟩ : ∃ v, us.getD k zeroU = v := ⟨_, rfl⟩
      obtain ⟨b, o, rfl, hbB, q0, q1, q2, q3, q4, q5, q6, q7, q8, q9, q10⟩ := (HR.out.below HX.out.2).getN k (by have := HL.out; omega) v hv
      have HV := Lib.hid hv
      clear hv
      go_wp2_with fail
      refine (chk2_any S v u _ (Nat.lt_of_lt_of_le hS HX.out.2.size) ((HX.out.2.cell (p := ⟨S, 3, none⟩) hS).trans H3.out) ((HX.out.2.cell (p := ⟨S, 4, none⟩) hS).trans H4.out)).mono ?_
      rintro e w' ⟨rfl, b2⟩
      have B2 : Hid (Below w.heap.size w w') := Lib.hid (HX.out.2.trans (b2.mono HX.out.2.size))
      clear b2 q0 q1 q2 q3 q4 q5 q6 q7 q8 q9 q10
      by_cases hg : (v.x == u.x && v.y == u.y) = true
      · rw [hg]
        have HG := Lib.hid hg
        clear hg
        go_wp2_with fail
        go_ret
        refine ⟨k, rfl, ⟨fun _ => ?_, fun _ => by omega⟩, B2.out⟩
        unfold standsAt
        rw [List.any_eq_true]
        have hkl : k < us.length := by have := HL.out; omega
        refine ⟨us[k], List.getElem_mem hkl, ?_⟩
        rw [← getD_lt hkl, HV.out]
        exact HG.out
      · have hg' : (v.x == u.x && v.y == u.y) = false := by simpa using hg
        rw [hg']
        have HG := Lib.hid hg'
        clear hg hg'
        go_wp2_with fail
        go_roundw
        case rel =>
          refine ⟨k + 1, by go_num, by omega, ?_, B2.out⟩
          intro j hj
          by_cases e : j = k
          · rw [e, HV.out]; exact HG.out
          · exact HX.out.1 j (by omega)
        case measure => simp [intOf]; omega
    · go_wp2_with fail
      go_ret
      refine ⟨-1, rfl, ⟨fun h => absurd h (by omega), ?_⟩, HX.out.2⟩
      intro h
      unfold standsAt at h
      rw [List.any_eq_true] at h
      obtain ⟨v, hv, hg⟩ := h
      obtain ⟨j, hj, rfl⟩ := List.mem_iff_getElem.1 hv
      have := HX.out.1 j (by have := HL.out; omega)
      rw [getD_lt hj] at this
      rw [this] at hg
      cases hg
set_option maxHeartbeats 400000 in
theorem cont_unit (a : Option Addr) (n c : Nat) (hn : n ≤ 100000) (us : List U) (hl : us.length = n) (u : U) (S : Nat) (w : World) (hr : URow true w.heap.size w a us) (hS : S < w.heap.size) (h3 : w.cell? ⟨S, 3, none⟩ = some (.int .i64 u.x)) (h4 : w.cell? ⟨S, 4, none⟩ = some (.int .i64 u.y)) :
    Calls Try.prog 95 #[.slice a n c, .func (.func 96) #[] #[.pointer (some ⟨S, 0, none⟩)]] w fun e w' => e = .returned (.bool (standsAt us u.x u.y)) ∧ Below w.heap.size w w' := by
  have HR := Lib.hid hr
  have HL := Lib.hid hl
  have H3 := Lib.hid h3
  have H4 := Lib.hid h4
  clear hr h3 h4 hl
  go_enter Try.func95, Try.ntmps95
  go_wp2_with fail
  refine (idx_unit a n c hn us HL.out u S w HR.out hS H3.out H4.out).mono ?_
  rintro e w1 ⟨r, rfl, h1, h2⟩
  have H1 := Lib.hid h1
  have H2 := Lib.hid h2
  clear h1 h2
  go_wp2_with fail
  go_ret
  refine ⟨ret1 (boolv ?_), H2.out⟩
  rw [Bool.eq_iff_iff]
  simpa using H1.out
end Go.Proofs.Ytlfljlhppigejab
