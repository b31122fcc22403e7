/-
  What the statement TopLeast does: walked; with the search of package least at its closure.
-/
import Derived.Test.YtlfljlhppigejabProg
import Derived.Test.YtlfljlhppigejabWords
import Derived.Test.YtlfljlhppigejabLeastPure
import Derived.WalkKit
import Derived.WalkSpells
import Derived.WalkLawsBesides
import Derived.BigQuiet
import Derived.Deep.QuietTactic
import Derived.Lib.Hide
import Derived.Outline
import Derived.Test.YtlfljlhppigejabMarksAll
import Derived.Test.YtlfljlhppigejabTapeAll
import Derived.Test.YtlfljlhppigejabRegion
import Derived.Deep.DeepCutAuto
namespace Go.Proofs.Ytlfljlhppigejab

theorem least_end {A B : List Int} {n first at_ asked : Nat} {found : Bool} (hn : 0 < n) (h1 : ∀ i, i < first → A.getD i 0 = B.getD i 0) (hf : first ≤ n) (h2 : ∀ k, first ≤ k → k < n → A.getD k 0 ≠ B.getD k 0)
    (hp : FindPost (fun i => A.getD i 0 != B.getD i 0) n at_ asked found) : found = decide (first < n) ∧ (found = true → at_ = first) := by
  obtain ⟨-, p2, p3⟩ := hp
  by_cases h : first < n
  · obtain ⟨e1, e2, e3, e4, -⟩ := p3 hn (by simpa using h2 (n - 1) (by omega) (by omega))
    refine ⟨by rw [e1]; simp [h], fun _ => ?_⟩
    have e3' : A.getD at_ 0 ≠ B.getD at_ 0 := by simpa using e3
    have h3 : ¬ at_ < first := fun hlt => e3' (h1 _ hlt)
    by_cases h5 : first < at_
    · have e5 := e4 (by omega)
      exact absurd (by simpa using e5) (h2 (at_ - 1) (by omega) (by omega))
    · omega
  · obtain ⟨e1, e2, e3⟩ := p2 hn (by simpa using h1 (n - 1) (by omega))
    exact ⟨by rw [e3]; simp [h], fun h6 => by rw [e3] at h6; cases h6⟩
theorem take_getD {A : List Int} {n i : Nat} (h : i < n) : (A.take n).getD i 0 = A.getD i 0 := by
  simp [List.getD, h]
end Go.Proofs.Ytlfljlhppigejab
namespace Go.Proofs.Ytlfljlhppigejab
open Go.RowKit

def FindEnd (d : Nat → Bool) (n : Nat) (Inv : Nat → World → Prop) (e : Ending) (w' : World) : Prop :=
  ∃ (at_ asked : Nat) (found : Bool), e = .returned (.tuple #[.int .i64 at_, .int .i64 asked, .bool found]) ∧ Inv asked w' ∧ FindPost d n at_ asked found

set_option maxHeartbeats 400000 in
theorem find_top (p0 p1 : Value) (n : Nat) (hn0 : 0 < n) (hn : n ≤ 1000000) (d : Nat → Bool) (Inv : Nat → World → Prop)
    (hcl : Hid (∀ (i : Int) (c : Nat) (W : World), 0 ≤ i → i < n → c ≤ n → Inv c W → Calls Try.prog 51 #[.int .i64 i, p0, p1] W fun e W' => e = .returned (.bool (d i.toNat)) ∧ Inv (c + 1) W'))
    (w : World) (h0 : Hid (Inv 0 w)) :
    Calls Try.prog 50 #[.int .i64 n, .func (.func 51) #[] #[p0, p1]] w (FindEnd d n Inv) := by
  have hc := hcl.out
  by_cases hd : d (n - 1) = true
  · have Hd := Lib.hid hd
    clear hd hc
    go_enter Try.func50, Try.ntmps50
    go_wp2_with fail
    refine (hcl.out _ 0 _ (by omega) (by omega) (by omega) h0.out).mono ?_
    rintro e w1 ⟨rfl, h1⟩
    have H1 := Lib.hid h1
    clear h1
    rw [show ((n : Int) - 1).toNat = n - 1 from by omega, Hd.out]
    go_wp2_with fail
    go_loopw [5, 7, 8] (fun a l h wr => ∃ lo hi k : Nat, l = .int .i64 lo ∧ h = .int .i64 hi ∧ a = .int .i64 k ∧ lo ≤ hi ∧ hi < n ∧ 1 ≤ k ∧ k + halves (hi - lo + 1) ≤ halves n + 1 ∧ (d hi = true ∧ (0 < lo → d (lo - 1) = false) ∧ Inv k wr))
      (fun _ l h _ => (intOf h - intOf l).toNat)
    case atStart => exact ⟨0, n - 1, 1, rfl, by congr 1; omega, rfl, by omega, by omega, by omega, by rw [show n - 1 - 0 + 1 = n from by omega]; omega, Hd.out, fun h => absurd h (by omega), H1.out⟩
    case round =>
      clear H1 h0
      obtain ⟨lo, hi, k, rfl, rfl, rfl, hle, hlt, hk, hcnt, hr⟩ := hrel
      have HR := Lib.hid hr
      have HC := Lib.hid hcnt
      clear hr hcnt
      by_cases hq : lo < hi
      · have hkn : k ≤ n := by
          have h1 := halves_left lo hi hq
          have h2 := halves_le n
          have := HC.out
          omega
        have hm2 : lo + (hi - lo) / 2 < hi := by omega
        go_wp2_with fail
        refine (hcl.out _ k _ (by omega) (by omega) hkn HR.out.2.2).mono ?_
        rintro e w2 ⟨rfl, h2⟩
        have H2 := Lib.hid h2
        clear h2
        rw [show ((lo : Int) + ((hi : Int) - (lo : Int)) / 2).toNat = lo + (hi - lo) / 2 from by omega]
        by_cases hd2 : d (lo + (hi - lo) / 2) = true
        · rw [hd2]
          have Hd2 := Lib.hid hd2
          clear hd2
          go_wp2_with fail
          go_roundw
          case rel =>
            refine ⟨lo, lo + (hi - lo) / 2, k + 1, rfl, by congr 1; omega, by go_num, by omega, by omega, by omega, ?_, Hd2.out, HR.out.2.1, H2.out⟩
            have h1 := halves_left lo hi hq
            have := HC.out
            omega
          case measure => simp [intOf]; omega
        · rw [Bool.eq_false_iff.2 hd2]
          have Hd2 := Lib.hid hd2
          clear hd2
          go_wp2_with fail
          go_roundw
          case rel =>
            refine ⟨lo + (hi - lo) / 2 + 1, hi, k + 1, by congr 1; omega, rfl, by go_num, by omega, by omega, by omega, ?_, HR.out.1, fun _ => Bool.eq_false_iff.2 Hd2.out, H2.out⟩
            have h1 := halves_right lo hi hq
            have := HC.out
            omega
          case measure => simp [intOf]; omega
      · go_wp2_with fail
        go_ret3
        obtain rfl : lo = hi := by omega
        refine ⟨lo, k, true, rfl, HR.out.2.2, fun h => absurd h (by omega), fun _ h => ?_, fun _ _ => ⟨rfl, hlt, HR.out.1, HR.out.2.1, by omega, ?_⟩⟩
        · have := Hd.out; rw [this] at h; cases h
        · have := HC.out
          omega
  · have Hd := Lib.hid hd
    clear hd hc
    go_enter Try.func50, Try.ntmps50
    go_wp2_with fail
    refine (hcl.out _ 0 _ (by omega) (by omega) (by omega) h0.out).mono ?_
    rintro e w1 ⟨rfl, h1⟩
    have H1 := Lib.hid h1
    clear h1
    rw [show ((n : Int) - 1).toNat = n - 1 from by omega, Bool.eq_false_iff.2 Hd.out]
    go_wp2_with fail
    go_ret3
    exact ⟨0, 1, false, rfl, H1.out, fun h => absurd h (by omega), fun _ _ => ⟨rfl, rfl, rfl⟩, fun _ h => absurd h Hd.out⟩

set_option maxHeartbeats 800000 in
theorem first_any (a b : Option Addr) (na ca nb cb : Nat) (A B : List Int) (ha : A.length = na) (hb : B.length = nb) (hna : na ≤ 1000) (hnb : nb ≤ 1000)
    (w : World) (hA : Hid (Row w.heap.size w a na (fun k => .int .u64 (A.getD k 0)))) (hB : Hid (Row w.heap.size w b nb (fun k => .int .u64 (B.getD k 0)))) :
    Calls Try.prog 48 #[.slice a na ca, .slice b nb cb] w
      fun e w' => e = .returned (.tuple #[.int .i64 (samePre A B), .bool (decide (samePre A B < na ∨ samePre A B < nb))]) ∧ Below w.heap.size w w' := by
  have ha' := Lib.hid ha
  have hb' := Lib.hid hb
  clear ha hb
  generalize hS : samePre A B = S
  have HS := Lib.hid hS
  clear hS
  rcases Nat.lt_or_ge nb na with hmn | hmn
  all_goals
    go_enter Try.func48, Try.ntmps48
    go_wp2
    all_goals
      go_loopw [12] (fun c wr => ∃ k : Nat, c = .int .i64 k ∧ k ≤ na ∧ k ≤ nb ∧ (∀ i, i < k → A.getD i 0 = B.getD i 0) ∧ Below w.heap.size w wr)
        (fun c _ => (na + nb - intOf c).toNat)
      case atStart => exact ⟨0, rfl, by omega, by omega, fun i h => absurd h (by omega), Below.refl _ _⟩
      case round =>
        obtain ⟨k, rfl, hka, hkb, hsame, hbel⟩ := hrel
        have HS1 := Lib.hid hsame
        clear hsame
        by_cases hk : k < na ∧ k < nb
        · obtain ⟨ka, kb⟩ := hk
          obtain ⟨b1, o1, rfl, hlt1, hx1⟩ := (hA.out.below hbel) k ka
          obtain ⟨b2, o2, rfl, hlt2, hx2⟩ := (hB.out.below hbel) k kb
          obtain ⟨x, hx⟩ : ∃ x, A.getD k 0 = x := ⟨_, rfl⟩
          obtain ⟨y, hy⟩ : ∃ y, B.getD k 0 = y := ⟨_, rfl⟩
          simp only [hx] at hx1
          simp only [hy] at hx2
          have HX := Lib.hid hx
          have HY := Lib.hid hy
          clear hx hy
          by_cases hxy : x = y
          · have e1 : (x != y) = false := by simp [hxy]
            have HXY := Lib.hid hxy
            clear hxy
            go_wp2
            go_quiet (fail)
            go_wp2
            go_roundw
            case rel =>
              refine ⟨k + 1, by go_num, by omega, by omega, ?_, below_drewN hbel _⟩
              intro i hi
              by_cases hik : i = k
              · rw [hik, HX.out, HY.out]; exact HXY.out
              · exact HS1.out i (by omega)
            case measure => simp [intOf]; omega
          · have e1 : (x != y) = true := by simp [hxy]
            have HXY := Lib.hid hxy
            clear hxy
            go_wp2
            go_quiet (fail)
            go_wp2
            go_ret2
            have hS : S = k := by
              rw [← HS.out]
              have h1 := ha'.out
              have h2 := hb'.out
              exact samePre_unique A B k HS1.out (by omega) (by omega) (fun _ _ => by rw [HX.out, HY.out]; exact HXY.out)
            subst hS
            exact ⟨ret2 rfl (boolv (by simp [ka])), below_drewN hbel _⟩
        · go_wp2
          go_ret2
          have hS : S = k := by
            rw [← HS.out]
            have h1 := ha'.out
            have h2 := hb'.out
            exact samePre_unique A B k HS1.out (by omega) (by omega) (fun _ _ => by omega)
          subst hS
          exact ⟨ret2 (intv (by omega)) (boolv (by rw [Bool.eq_iff_iff]; simp; omega)), hbel⟩
end Go.Proofs.Ytlfljlhppigejab
namespace Go.Proofs.Ytlfljlhppigejab
open Go.RowKit

set_option maxHeartbeats 800000 in
/-- The closure of TopLeast. -/
theorem ask_any (pa pb na ca nb cb : Nat) (a b : Option Addr) (A B : List Int) (W0 W : World) (hW : Below W0.heap.size W0 W) (la : pa < W0.heap.size) (lb : pb < W0.heap.size) (ha : W0.cell? ⟨pa, 0, none⟩ = some (.slice a na ca)) (hb : W0.cell? ⟨pb, 0, none⟩ = some (.slice b nb cb))
    (hA : Row W0.heap.size W0 a na (fun k => .int .u64 (A.getD k 0))) (hB : Row W0.heap.size W0 b nb (fun k => .int .u64 (B.getD k 0))) (i : Nat) (h1 : i < na) (h2 : i < nb) :
    Calls Try.prog 51 #[.int .i64 i, .pointer (some ⟨pa, 0, none⟩), .pointer (some ⟨pb, 0, none⟩)] W fun e W' => e = .returned (.bool (A.getD i 0 != B.getD i 0)) ∧ Below W0.heap.size W0 W' := by
  obtain ⟨b1, o1, rfl, hlt1, hx1⟩ := (hA.below hW) i h1
  obtain ⟨b2, o2, rfl, hlt2, hx2⟩ := (hB.below hW) i h2
  obtain ⟨x, hx⟩ : ∃ x, A.getD i 0 = x := ⟨_, rfl⟩
  obtain ⟨y, hy⟩ : ∃ y, B.getD i 0 = y := ⟨_, rfl⟩
  simp only [hx] at hx1 ⊢
  simp only [hy] at hx2 ⊢
  have ha' := (hW.cell (p := ⟨pa, 0, none⟩) la).trans ha
  have hb' := (hW.cell (p := ⟨pb, 0, none⟩) lb).trans hb
  have hsz := hW.size
  have HW := Lib.hid hW
  have i0 : (0 : Int) ≤ (i : Int) := by omega
  have i1 : (i : Int) < (na : Int) := by omega
  have i2 : (i : Int) < (nb : Int) := by omega
  have p1 : pa < W.heap.size := by omega
  have p2 : pb < W.heap.size := by omega
  have p3 : b1 < W.heap.size := by omega
  have p4 : b2 < W.heap.size := by omega
  clear hx hy ha hb hA hB hW
  go_enter Try.func51, Try.ntmps51
  go_wp2
  go_quiet (fail)
  go_wp2
  go_ret
  exact ⟨rfl, below_drewN HW.out _⟩

set_option maxHeartbeats 12800000 in
set_option maxRecDepth 100000 in
theorem topleast_law (MK : Hid MarksHold) (g g' : G) (fa ua ta fa' ua' ta' : Option Addr) (cf cu ct cf' cu' ct' : Nat) (hnew : g.new = false) (hnew' : g'.new = false) (ts ts' : List (List Cm)) (hcf : g.free.length ≤ maxLen) (hcu : g.us.length ≤ maxLen) (hct : ts.length ≤ maxLen) (hcf' : g'.free.length ≤ maxLen) (hcu' : g'.us.length ≤ maxLen) (hct' : ts'.length ≤ maxLen)
    (hcap : ts.length ≤ ct) (hcap' : ts'.length ≤ ct') (w : World)
    (hf : Row w.heap.size w fa g.free.length (fun k => .int .i64 (g.free.getD k 0))) (hu : URow false w.heap.size w ua g.us) (ht : TRow w.heap.size w ta ts) (hfit : ∀ n ∈ g.free, Fits64 n)
    (hf' : Row w.heap.size w fa' g'.free.length (fun k => .int .i64 (g'.free.getD k 0))) (hu' : URow false w.heap.size w ua' g'.us) (ht' : TRow w.heap.size w ta' ts') (hfit' : ∀ n ∈ g'.free, Fits64 n) :
    Calls Try.prog 7 #[.agg #[.int .i64 g.tick, .int .i64 g.g0, .int .i64 g.g1, .int .i64 g.next, .slice fa g.free.length cf, .slice ua g.us.length cu, .slice ta ts.length ct],
      .agg #[.int .i64 g'.tick, .int .i64 g'.g0, .int .i64 g'.g1, .int .i64 g'.next, .slice fa' g'.free.length cf', .slice ua' g'.us.length cu', .slice ta' ts'.length ct']] w (TrueBelow w) := by
  obtain ⟨W, hW⟩ : ∃ W, (w.alloc (.cells #[.int .i64 g.tick, .int .i64 g.g0, .int .i64 g.g1, .int .i64 g.next, .slice fa g.free.length cf, .slice ua g.us.length cu, .slice ta ts.length ct] 29)).alloc (.cells #[.int .i64 g'.tick, .int .i64 g'.g0, .int .i64 g'.g1, .int .i64 g'.next, .slice fa' g'.free.length cf', .slice ua' g'.us.length cu', .slice ta' ts'.length ct'] 29) = W := ⟨_, rfl⟩
  have hbW : Below w.heap.size w W := by rw [← hW]; exact ((Below.refl _ _).alloc (Nat.le_refl _) _).alloc (by simp) _
  have k1 : Blk W w.heap.size #[.int .i64 g.tick, .int .i64 g.g0, .int .i64 g.g1, .int .i64 g.next, .slice fa g.free.length cf, .slice ua g.us.length cu, .slice ta ts.length ct] := by rw [← hW]; exact (Blk.new w _ _).alloc _
  have k2 : Blk W (w.heap.size + 1) #[.int .i64 g'.tick, .int .i64 g'.g0, .int .i64 g'.g1, .int .i64 g'.next, .slice fa' g'.free.length cf', .slice ua' g'.us.length cu', .slice ta' ts'.length ct'] := by
    rw [← hW]
    have := Blk.new (w.alloc (.cells #[.int .i64 g.tick, .int .i64 g.g0, .int .i64 g.g1, .int .i64 g.next, .slice fa g.free.length cf, .slice ua g.us.length cu, .slice ta ts.length ct] 29)) #[.int .i64 g'.tick, .int .i64 g'.g0, .int .i64 g'.g1, .int .i64 g'.next, .slice fa' g'.free.length cf', .slice ua' g'.us.length cu', .slice ta' ts'.length ct'] 29
    simpa using this
  have hm : maxLen ≤ 9223372036854775807 := by unfold maxLen; decide
  have HF := Lib.hid hf
  have HU := Lib.hid hu
  have HT := Lib.hid ht
  have HFIT := Lib.hid hfit
  have HF' := Lib.hid hf'
  have HU' := Lib.hid hu'
  have HT' := Lib.hid ht'
  have HFIT' := Lib.hid hfit'
  have HN := Lib.hid hnew
  have HN' := Lib.hid hnew'
  have HW := Lib.hid hbW
  have K1 := Lib.hid k1
  have K2 := Lib.hid k2
  have hsW := hbW.size
  clear hf hu ht hfit hf' hu' ht' hfit' hnew hnew' hbW k1 k2
  go_enter Try.func7, Try.ntmps7
  go_upto_region 1 with fail
  try rw [hW]
  clear hW
  go_wp2_with fail
  obtain ⟨X, hX⟩ : ∃ X, (W.alloc (.cells #[.int .u64 1] 74)).alloc (.cells #[.int .u64 2] 74) = X := ⟨_, rfl⟩
  rw [hX]
  have hbX : Below W.heap.size W X := by rw [← hX]; exact ((Below.refl _ _).alloc (Nat.le_refl _) _).alloc (by simp) _
  have hXs : X.heap.size = W.heap.size + 2 := by rw [← hX]; simp
  have r1 : Row X.heap.size X (some ⟨W.heap.size, 0, none⟩) 1 (fun k => .int .u64 ([(1 : Int)].getD k 0)) := fun k hk => by
    obtain rfl : k = 0 := by omega
    refine ⟨_, _, rfl, by omega, ?_⟩
    rw [← hX, World.cell?_alloc_old _ _ _ (by simp)]
    exact World.cell?_alloc_new _ _ _ _
  have r2 : Row X.heap.size X (some ⟨W.heap.size + 1, 0, none⟩) 1 (fun k => .int .u64 ([(2 : Int)].getD k 0)) := fun k hk => by
    obtain rfl : k = 0 := by omega
    refine ⟨_, _, rfl, by omega, ?_⟩
    have := World.cell?_alloc_new (W.alloc (.cells #[.int .u64 1] 74)) #[.int .u64 2] 74 0
    rw [hX, World.size_alloc] at this
    exact this
  have hfirst : Calls Try.prog 48 #[.slice (some ⟨W.heap.size, 0, none⟩) 1 1, .slice (some ⟨W.heap.size + 1, 0, none⟩) 1 1] X fun e w' => e = .returned (.tuple #[.int .i64 0, .bool true]) ∧ Below X.heap.size X w' :=
    (first_any _ _ 1 1 1 1 [1] [2] rfl rfl (by omega) (by omega) X (Lib.hid r1) (Lib.hid r2)).mono fun e w' ⟨he, hb⟩ => ⟨he.trans (by rfl), hb⟩
  have HFI := Lib.hid hfirst
  have HBX := Lib.hid hbX
  clear hX r1 r2 hfirst hbX hXs
  refine (HFI.out).mono ?_
  rintro e w1 ⟨rfl, b1⟩
  have hb1 : Below W.heap.size W w1 := HBX.out.trans (b1.mono HBX.out.size)
  have hs1 := hb1.size
  have HB1 := Lib.hid hb1
  obtain ⟨l11, c11, -⟩ := id (K1.out.call hb1)
  clear b1 HFI HBX hb1
  go_wp2_with fail
  refine (light_any g fa ua ta cf cu ct ts hct _ ((HT.out.below (HW.out.trans (HB1.out.mono hsW))).mono (by omega))).mono ?_
  rintro e w2 ⟨b, rfl, hl, b2⟩
  have hb2 : Below W.heap.size W w2 := HB1.out.trans (b2.mono hs1)
  have HB2 := Lib.hid hb2
  have HL := Lib.hid hl
  have hs2 := hb2.size
  obtain ⟨l12, c12, -⟩ := id (K1.out.call hb2)
  obtain ⟨l22, c22, -⟩ := id (K2.out.call hb2)
  clear b2 hl c11 l11 hb2
  cases b
  · go_wp2_with fail
    go_ret
    exact tb rfl (HW.out.trans (HB2.out.mono hsW))
  have hlight := HL.out rfl
  clear HL
  have HLI := Lib.hid hlight
  clear hlight
  go_wp2_with fail
  refine (light_any g' fa' ua' ta' cf' cu' ct' ts' hct' _ ((HT'.out.below (HW.out.trans (HB2.out.mono hsW))).mono (by omega))).mono ?_
  rintro e w3 ⟨b, rfl, hl, b3⟩
  have hb3 : Below W.heap.size W w3 := HB2.out.trans (b3.mono hs2)
  have HB3 := Lib.hid hb3
  have HL' := Lib.hid hl
  have hs3 := hb3.size
  obtain ⟨l13, c13, -⟩ := id (K1.out.call hb3)
  obtain ⟨l23, c23, -⟩ := id (K2.out.call hb3)
  clear b3 hl c12 l12 c22 l22 hb3
  cases b
  · go_wp2_with fail
    go_ret
    exact tb rfl (HW.out.trans (HB3.out.mono hsW))
  have hlight := HL'.out rfl
  clear HL'
  have HLI' := Lib.hid hlight
  clear hlight
  have B3w : Hid (Below w.heap.size w w3) := Lib.hid (HW.out.trans (HB3.out.mono hsW))
  go_wp2_with fail
  refine (checktape_any g fa ua ta cf cu ct HN.out (by omega) (by omega) ts hct _ ((HF.out.below B3w.out).mono (by omega)) ((HU.out.below B3w.out).mono (by omega)) ((HT.out.below B3w.out).mono (by omega)) HFIT.out).mono ?_
  rintro e w4 ⟨rfl, b4⟩
  have hb4 : Below W.heap.size W w4 := HB3.out.trans (b4.mono hs3)
  have HB4 := Lib.hid hb4
  have hs4 := hb4.size
  obtain ⟨l14, c14, -⟩ := id (K1.out.call hb4)
  obtain ⟨l24, c24, -⟩ := id (K2.out.call hb4)
  have B4w : Hid (Below w.heap.size w w4) := Lib.hid (HW.out.trans (HB4.out.mono hsW))
  clear b4 c13 l13 c23 l23 hb4
  by_cases hf0 : tapeFault g ts = 0
  case neg =>
    rw [errV_pos _ hf0]
    clear hf0
    go_wp2_with fail
    go_ret
    exact tb rfl B4w.out
  rw [hf0, errV_zero]
  clear hf0
  go_wp2_with fail
  refine (checktape_any g' fa' ua' ta' cf' cu' ct' HN'.out (by omega) (by omega) ts' hct' _ ((HF'.out.below B4w.out).mono (by omega)) ((HU'.out.below B4w.out).mono (by omega)) ((HT'.out.below B4w.out).mono (by omega)) HFIT'.out).mono ?_
  rintro e w5 ⟨rfl, b5⟩
  have hb5 : Below W.heap.size W w5 := HB4.out.trans (b5.mono hs4)
  have HB5 := Lib.hid hb5
  have hs5 := hb5.size
  obtain ⟨l15, c15, -⟩ := id (K1.out.call hb5)
  have B5w : Hid (Below w.heap.size w w5) := Lib.hid (HW.out.trans (HB5.out.mono hsW))
  clear b5 c14 l14 c24 l24 hb5
  by_cases hf0 : tapeFault g' ts' = 0
  case neg =>
    rw [errV_pos _ hf0]
    clear hf0
    go_wp2_with fail
    go_ret
    exact tb rfl B5w.out
  rw [hf0, errV_zero]
  clear hf0
  obtain ⟨g1, g2, g3, g4⟩ := HLI.out
  obtain ⟨g1', g2', g3', g4'⟩ := HLI'.out
  have HG2 := Lib.hid g2
  have HG2' := Lib.hid g2'
  clear g2 g2' HLI HLI'
  go_wp2_with fail
  refine (MK.out g fa ua ta cf cu ct HN.out (by omega) (by omega) ts (by omega) _ ((HF.out.below B5w.out).mono (by omega)) ((HU.out.below B5w.out).mono (by omega)) ((HT.out.below B5w.out).mono (by omega)) hcap HFIT.out).mono ?_
  rintro e w6 ⟨A, a, ca, rfl, hca, hA, hrA, b6⟩
  obtain ⟨n1, hn1⟩ : ∃ n, ts.length + 1 = n := ⟨_, rfl⟩
  rw [hn1] at hca hA hrA ⊢
  have hb6 : Below W.heap.size W w6 := HB5.out.trans (b6.mono hs5)
  have hs6 := hb6.size
  obtain ⟨X, hX⟩ : ∃ X, w6.alloc (.cells #[.slice a n1 ca] 96) = X := ⟨_, rfl⟩
  have hbX : Below w6.heap.size w6 X := by rw [← hX]; exact (Below.refl _ _).alloc (Nat.le_refl _) _
  have kA : Blk X w6.heap.size #[.slice a n1 ca] := by rw [← hX]; exact Blk.new w6 _ _
  have hsX := hbX.size
  have hbWX : Below W.heap.size W X := hb6.trans (hbX.mono hs6)
  obtain ⟨l2X, c2X, -⟩ := id (K2.out.call hbWX)
  have HRA := Lib.hid ((hrA.below hbX).mono hsX)
  have HAL := Lib.hid hA
  have HBX := Lib.hid hbWX
  have KA := Lib.hid kA
  have HN1 := Lib.hid hn1
  have BXw : Hid (Below w.heap.size w X) := Lib.hid (HW.out.trans (hbWX.mono hsW))
  have hsWX := hbWX.size
  have hn1p : 0 < n1 := by omega
  have hn1s : n1 ≤ 71 := by omega
  clear hA hrA hb6 hbX kA hbWX b6 c15 l15 hn1
  go_wp2_with fail
  try rw [hX]
  clear hX
  refine (MK.out g' fa' ua' ta' cf' cu' ct' HN'.out (by omega) (by omega) ts' (by omega) _ ((HF'.out.below BXw.out).mono (by omega)) ((HU'.out.below BXw.out).mono (by omega)) ((HT'.out.below BXw.out).mono (by omega)) hcap' HFIT'.out).mono ?_
  rintro e w7 ⟨B, b, cb, rfl, hcb, hB, hrB, b7⟩
  obtain ⟨n2, hn2⟩ : ∃ n, ts'.length + 1 = n := ⟨_, rfl⟩
  rw [hn2] at hcb hB hrB ⊢
  have hs7 := b7.size
  obtain ⟨Y, hY⟩ : ∃ Y, w7.alloc (.cells #[.slice b n2 cb] 96) = Y := ⟨_, rfl⟩
  have hbY : Below w7.heap.size w7 Y := by rw [← hY]; exact (Below.refl _ _).alloc (Nat.le_refl _) _
  have kB : Blk Y w7.heap.size #[.slice b n2 cb] := by rw [← hY]; exact Blk.new w7 _ _
  have hsY := hbY.size
  have hbXY : Below X.heap.size X Y := b7.trans (hbY.mono hs7)
  have kA2 := KA.out.call hbXY
  have HRB := Lib.hid ((hrB.below hbY).mono hsY)
  have HRA2 := Lib.hid ((HRA.out.below hbXY).mono hbXY.size)
  have HBL := Lib.hid hB
  have BYw : Hid (Below w.heap.size w Y) := Lib.hid (BXw.out.trans (hbXY.mono (by omega)))
  have hn2p : 0 < n2 := by omega
  have hn2s : n2 ≤ 71 := by omega
  obtain ⟨pA, hpA⟩ : ∃ p, w6.heap.size = p := ⟨_, rfl⟩
  obtain ⟨pB, hpB⟩ : ∃ p, w7.heap.size = p := ⟨_, rfl⟩
  have KA2 := Lib.hid kA2
  have KB := Lib.hid kB
  have HPA := Lib.hid hpA
  have HPB := Lib.hid hpB
  have HXY := Lib.hid hbXY
  clear hB hrB hbY kB hbXY kA2 b7 c2X l2X hn2 hpA hpB
  go_upto_region 8 with fail
  try rw [hY]
  clear hY
  rw [HPA.out, HPB.out]
  have kA3 : Blk Y pA #[.slice a n1 ca] := by rw [← HPA.out]; exact KA2.out
  have kB3 : Blk Y pB #[.slice b n2 cb] := by rw [← HPB.out]; exact KB.out
  obtain ⟨lA, cA, -⟩ := id kA3
  obtain ⟨lB, cB, -⟩ := id kB3
  clear kA3 kB3 hs1 hs2 hs3 hs4 hs5 hs6 hsX hs7 hsY
  obtain ⟨n, hn⟩ : ∃ n, min n1 n2 = n := ⟨_, rfl⟩
  have hnn : n ≤ n1 ∧ n ≤ n2 ∧ 0 < n := by omega
  have HNM := Lib.hid hn
  obtain ⟨q1, q2, q3⟩ := hnn
  clear hn
  go_cut [9] (fun s9 wx => s9 = .int .i64 n ∧ Y = wx)
  case first =>
    have hn := HNM.out
    rcases Nat.lt_or_ge n2 n1 with h | h
    · obtain rfl : n = n2 := by omega
      go_wp2_with fail
      go_meet
      exact ⟨intv (by omega), by first | rfl | trivial⟩
    · obtain rfl : n = n1 := by omega
      go_wp2_with fail
      go_meet
      exact ⟨intv (by omega), by first | rfl | trivial⟩
  obtain ⟨h9, rfl⟩ := hcut
  rw [h9]
  clear h9
  go_upto_region 9 with fail
  have nca : (n : Int) ≤ (ca : Int) := by omega
  have ncb : (n : Int) ≤ (cb : Int) := by omega
  have hnI : (0 : Int) ≤ (n : Int) := by omega
  have hla : (A.take n).length = n := by rw [List.length_take, HAL.out]; exact Nat.min_eq_left q1
  have hlb : (B.take n).length = n := by rw [List.length_take, HBL.out]; exact Nat.min_eq_left q2
  obtain ⟨S, hS⟩ : ∃ S, samePre (A.take n) (B.take n) = S := ⟨_, rfl⟩
  have hrowA : ∀ x : Cw Y, Hid (Row x.w.heap.size x.w a n (fun k => .int .u64 ((A.take n).getD k 0))) := fun x => Lib.hid (fun k hk => by
    obtain ⟨p, o, h1, h2, h3⟩ := (HRA2.out.below x.below) k (by omega)
    exact ⟨p, o, h1, Nat.lt_of_lt_of_le h2 x.le, by
      rw [h3]
      show some (Value.int .u64 (A.getD k 0)) = some (.int .u64 ((A.take n).getD k 0))
      rw [take_getD hk]⟩)
  have hrowB : ∀ x : Cw Y, Hid (Row x.w.heap.size x.w b n (fun k => .int .u64 ((B.take n).getD k 0))) := fun x => Lib.hid (fun k hk => by
    obtain ⟨p, o, h1, h2, h3⟩ := (HRB.out.below x.below) k (by omega)
    exact ⟨p, o, h1, Nat.lt_of_lt_of_le h2 x.le, by
      rw [h3]
      show some (Value.int .u64 (B.getD k 0)) = some (.int .u64 ((B.take n).getD k 0))
      rw [take_getD hk]⟩)
  have hfst : ∀ x : Cw Y, Calls Try.prog 48 #[.slice a n ca, .slice b n cb] x.w fun e w' => e = .returned (.tuple #[.int .i64 S, .bool (decide (S < n))]) ∧ Below x.w.heap.size x.w w' := fun x =>
    (first_any a b n ca n cb (A.take n) (B.take n) hla hlb (by omega) (by omega) x.w (hrowA x) (hrowB x)).mono fun e w' ⟨he, hb⟩ => ⟨by rw [he, hS]; simp, hb⟩
  have HFST := Lib.hid hfst
  have HS := Lib.hid hS
  haveI := Cw.ne Y
  have hcwA : ∀ x : Cw Y, x.w.cell? ⟨pA, 0, none⟩ = some (.slice a n1 ca) := fun x => (x.cell _ _ lA).trans (cA 0)
  have hcwB : ∀ x : Cw Y, x.w.cell? ⟨pB, 0, none⟩ = some (.slice b n2 cb) := fun x => (x.cell _ _ lB).trans (cB 0)
  have hlw : ∀ x : Cw Y, pA < x.w.heap.size ∧ pB < x.w.heap.size := fun x => ⟨Nat.lt_of_lt_of_le lA x.le, Nat.lt_of_lt_of_le lB x.le⟩
  clear hrowA hrowB hfst hS
  refine region_cw (by kernel_rfl) (by kernel_rfl) ?_
  repeat (go_big_quiet_step ((go_at_call 48; refine Calls.cw (HFST.out _))))
  refine wpQuiet_nil ?_
  intro Z hZ
  have kAZ : Z.cell? ⟨pA, 0, none⟩ = some (.slice a n1 ca) := hcwA ⟨Z, hZ⟩
  have kBZ : Z.cell? ⟨pB, 0, none⟩ = some (.slice b n2 cb) := hcwB ⟨Z, hZ⟩
  obtain ⟨lAZ, lBZ⟩ := hlw ⟨Z, hZ⟩
  dsimp only at lAZ lBZ
  have HRAZ := Lib.hid ((HRA2.out.below hZ).mono hZ.size)
  have HRBZ := Lib.hid ((HRB.out.below hZ).mono hZ.size)
  have hsYw := BYw.out.size
  have BZw : Hid (Below w.heap.size w Z) := Lib.hid (BYw.out.trans (hZ.mono hsYw))
  have hsam := HS.out
  have hSl := samePre_le (A.take n) (B.take n)
  rw [hsam, hla] at hSl
  have hSn := hSl.1
  have HLA := Lib.hid hla
  have HLB := Lib.hid hlb
  have hS0 : (0 : Int) ≤ (S : Int) := by omega
  clear hcwA hcwB hlw hZ cA cB lA lB hsam hSl hla hlb
  go_wp2_with fail
  go_loopw [12] (fun i wz => ∃ k : Nat, i = .int .i64 k ∧ S ≤ k ∧ k ≤ n ∧ ((∀ j, S ≤ j → j < k → A.getD j 0 ≠ B.getD j 0) ∧ Below Z.heap.size Z wz)) (fun i _ => (n - intOf i).toNat)
  case atStart => exact ⟨S, rfl, Nat.le_refl _, hSn, fun j h1 h2 => absurd h1 (by omega), Below.refl _ _⟩
  case round =>
    obtain ⟨k, rfl, hSk, hk, hne, hX⟩ := hrel
    have HX := Lib.hid hX
    have HNE := Lib.hid hne
    have cA1 := (hX.cell (p := ⟨pA, 0, none⟩) lAZ).trans kAZ
    have cB1 := (hX.cell (p := ⟨pB, 0, none⟩) lBZ).trans kBZ
    have hszr := hX.size
    have lA1 : pA < wr.heap.size := by omega
    have lB1 : pB < wr.heap.size := by omega
    by_cases hlt : k < n
    · obtain ⟨b1, o1, ha1, hlt1, hx1⟩ := (HRAZ.out.below hX) k (by omega)
      obtain ⟨b2, o2, hb2, hlt2, hx2⟩ := (HRBZ.out.below hX) k (by omega)
      obtain ⟨x, hx⟩ : ∃ x, A.getD k 0 = x := ⟨_, rfl⟩
      obtain ⟨y, hy⟩ : ∃ y, B.getD k 0 = y := ⟨_, rfl⟩
      simp only [hx] at hx1
      simp only [hy] at hx2
      subst ha1
      subst hb2
      have p3 : b1 < wr.heap.size := by omega
      have p4 : b2 < wr.heap.size := by omega
      have k0 : (0 : Int) ≤ (k : Int) := by omega
      have k1' : (k : Int) < (n : Int) := by omega
      have k2' : (k : Int) < (n1 : Int) := by omega
      have k3' : (k : Int) < (n2 : Int) := by omega
      have HXX := Lib.hid hx
      have HYY := Lib.hid hy
      clear hX hne hx hy
      by_cases hxy : x = y
      · have e1 : (x == y) = true := by simp [hxy]
        clear hxy
        go_wp2_with fail
        go_quiet (fail)
        go_wp2_with fail
        go_ret
        exact tb rfl (BZw.out.trans ((below_drewN HX.out _).mono (by have := BZw.out.size; omega)))
      · have e1 : (x == y) = false := by simp [hxy]
        have HXY := Lib.hid hxy
        clear hxy
        go_wp2_with fail
        go_quiet (fail)
        go_wp2_with fail
        go_roundw
        case rel =>
          refine ⟨k + 1, by go_num, by omega, by omega, fun j h1 h2 => ?_, below_drewN HX.out _⟩
          by_cases e : j = k
          · rw [e, HXX.out, HYY.out]; exact HXY.out
          · exact HNE.out j h1 (by omega)
        case measure => simp [intOf]; omega
    · obtain rfl : k = n := by omega
      have hlaw : ∀ at_ asked found, FindPost (fun i => A.getD i 0 != B.getD i 0) k at_ asked found → found = decide (S < k) ∧ (found = true → at_ = S) := fun at_ asked found hp => by
        refine least_end q3 (fun i hi => ?_) hSk HNE.out hp
        have := samePre_eq (A.take k) (B.take k) i (by rw [HS.out]; exact hi)
        rw [take_getD (by omega), take_getD (by omega)] at this
        exact this
      have HLAW := Lib.hid hlaw
      have hfind := find_top (.pointer (some ⟨pA, 0, none⟩)) (.pointer (some ⟨pB, 0, none⟩)) k q3 (by omega) (fun i => A.getD i 0 != B.getD i 0) (fun _ V => Below wr.heap.size wr V) (Lib.hid (fun i c V h0 h1 _ hV => by
        obtain ⟨i', rfl⟩ := Int.eq_ofNat_of_zero_le h0
        refine (ask_any pA pB n1 ca n2 cb a b A B wr V hV lA1 lB1 cA1 cB1 ((HRAZ.out.below HX.out).mono hszr) ((HRBZ.out.below HX.out).mono hszr) i' (by omega) (by omega)).mono ?_
        rintro e w' ⟨rfl, hb⟩
        exact ⟨by rw [Int.toNat_natCast], hb⟩)) wr (Lib.hid (Below.refl _ _))
      have HFIND := Lib.hid hfind
      clear hfind hlaw hX hne
      go_wp2_with fail
      refine (HFIND.out).mono ?_
      rintro e w9 ⟨at_, asked, found, rfl, h9, hp⟩
      obtain ⟨e1, e2⟩ := HLAW.out at_ asked found hp
      have B9 : Hid (Below w.heap.size w w9) := Lib.hid (BZw.out.trans ((HX.out.trans (h9.mono hszr)).mono (by have := BZw.out.size; omega)))
      clear h9 hp HFIND HLAW
      by_cases hSk2 : S < k
      · have d1 : decide (S < k) = true := decide_eq_true hSk2
        rw [d1] at e1 ⊢
        subst e1
        have e3 := e2 rfl
        subst e3
        clear e2 d1
        go_wp2_with fail
        go_ret
        exact tb (by simp) B9.out
      · have d1 : decide (S < k) = false := decide_eq_false hSk2
        rw [d1] at e1 ⊢
        subst e1
        clear e2 d1
        go_wp2_with fail
        go_ret
        exact tb (by simp) B9.out
end Go.Proofs.Ytlfljlhppigejab
