/-
  The walks of package least: Find by a contract on what it asks, First.
-/
import Derived.Test.YtlfljlhppigejaaProg
import Derived.Test.YtlfljlhppigejaaLeastPure
import Derived.Test.YtlfljlhppigejaaWords
import Derived.WalkKit
import Derived.WalkSpells
import Derived.WalkLawsBesides
import Derived.BigQuiet
import Derived.Deep.QuietTactic
import Derived.Lib.Hide
import Derived.Outline
namespace Go.Proofs.Ytlfljlhppigejaa
open Go.RowKit

def FindEnd (d : Nat → Bool) (n : Nat) (Inv : Nat → World → Prop) (e : Ending) (w' : World) : Prop :=
  ∃ (at_ asked : Nat) (found : Bool), e = .returned (.tuple #[.int .i64 at_, .int .i64 asked, .bool found]) ∧ Inv asked w' ∧ FindPost d n at_ asked found

theorem find_nil (cl : Value) (n : Int) (hn : n < 1) (w : World) :
    Calls Try.prog 15 #[.int .i64 n, cl] w fun e w' => e = .returned (.tuple #[.int .i64 0, .int .i64 0, .bool false]) ∧ w = w' := by
  go_enter Try.func15, Try.ntmps15
  go_wp2
  go_ret3
  exact ⟨rfl, rfl⟩

set_option maxHeartbeats 400000 in
theorem find_laws (p0 p1 p2 p3 : Value) (n : Nat) (hn0 : 0 < n) (hn : n ≤ 1000000) (d : Nat → Bool) (Inv : Nat → World → Prop)
    (hcl : Hid (∀ (i : Int) (c : Nat) (W : World), 0 ≤ i → i < n → c ≤ n → Inv c W → Calls Try.prog 16 #[.int .i64 i, p0, p1, p2, p3] W fun e W' => e = .returned (.bool (d i.toNat)) ∧ Inv (c + 1) W'))
    (w : World) (h0 : Hid (Inv 0 w)) :
    Calls Try.prog 15 #[.int .i64 n, .func (.func 16) #[] #[p0, p1, p2, p3]] w (FindEnd d n Inv) := by
  have hc := hcl.out
  by_cases hd : d (n - 1) = true
  · have Hd := Lib.hid hd
    clear hd hc
    go_enter Try.func15, Try.ntmps15
    go_wp2_with fail
    refine (hcl.out _ 0 _ (by omega) (by omega) (by omega) h0.out).mono ?_
    rintro e w1 ⟨rfl, h1⟩
    have H1 := Lib.hid h1
    clear h1
    rw [show ((n : Int) - 1).toNat = n - 1 from by omega, Hd.out]
    go_wp2_with fail
    go_loopw [5, 7, 8] (fun a l h wr => ∃ lo hi k : Nat, l = .int .i64 lo ∧ h = .int .i64 hi ∧ a = .int .i64 k ∧ lo ≤ hi ∧ hi < n ∧ 1 ≤ k ∧ k + halves (hi - lo + 1) ≤ halves n + 1 ∧ (d hi = true ∧ (0 < lo → d (lo - 1) = false) ∧ Inv k wr))
      (fun _ l h _ => (intOf h - intOf l).toNat)
    case atStart => exact ⟨0, n - 1, 1, rfl, by congr 1; omega, rfl, by omega, by omega, by omega, by rw [show n - 1 - 0 + 1 = n from by omega]; omega, Hd.out, fun h => absurd h (by omega), H1.out⟩
    case round =>
      clear H1 h0
      obtain ⟨lo, hi, k, rfl, rfl, rfl, hle, hlt, hk, hcnt, hr⟩ := hrel
      have HR := Lib.hid hr
      have HC := Lib.hid hcnt
      clear hr hcnt
      by_cases hq : lo < hi
      · have hkn : k ≤ n := by
          have h1 := halves_left lo hi hq
          have h2 := halves_le n
          have := HC.out
          omega
        have hm2 : lo + (hi - lo) / 2 < hi := by omega
        go_wp2_with fail
        refine (hcl.out _ k _ (by omega) (by omega) hkn HR.out.2.2).mono ?_
        rintro e w2 ⟨rfl, h2⟩
        have H2 := Lib.hid h2
        clear h2
        rw [show ((lo : Int) + ((hi : Int) - (lo : Int)) / 2).toNat = lo + (hi - lo) / 2 from by omega]
        by_cases hd2 : d (lo + (hi - lo) / 2) = true
        · rw [hd2]
          have Hd2 := Lib.hid hd2
          clear hd2
          go_wp2_with fail
          go_roundw
          case rel =>
            refine ⟨lo, lo + (hi - lo) / 2, k + 1, rfl, by congr 1; omega, by go_num, by omega, by omega, by omega, ?_, Hd2.out, HR.out.2.1, H2.out⟩
            have h1 := halves_left lo hi hq
            have := HC.out
            omega
          case measure => simp [intOf]; omega
        · rw [Bool.eq_false_iff.2 hd2]
          have Hd2 := Lib.hid hd2
          clear hd2
          go_wp2_with fail
          go_roundw
          case rel =>
            refine ⟨lo + (hi - lo) / 2 + 1, hi, k + 1, by congr 1; omega, rfl, by go_num, by omega, by omega, by omega, ?_, HR.out.1, fun _ => Bool.eq_false_iff.2 Hd2.out, H2.out⟩
            have h1 := halves_right lo hi hq
            have := HC.out
            omega
          case measure => simp [intOf]; omega
      · go_wp2_with fail
        go_ret3
        obtain rfl : lo = hi := by omega
        refine ⟨lo, k, true, rfl, HR.out.2.2, fun h => absurd h (by omega), fun _ h => ?_, fun _ _ => ⟨rfl, hlt, HR.out.1, HR.out.2.1, by omega, ?_⟩⟩
        · have := Hd.out; rw [this] at h; cases h
        · have := HC.out
          omega
  · have Hd := Lib.hid hd
    clear hd hc
    go_enter Try.func15, Try.ntmps15
    go_wp2_with fail
    refine (hcl.out _ 0 _ (by omega) (by omega) (by omega) h0.out).mono ?_
    rintro e w1 ⟨rfl, h1⟩
    have H1 := Lib.hid h1
    clear h1
    rw [show ((n : Int) - 1).toNat = n - 1 from by omega, Bool.eq_false_iff.2 Hd.out]
    go_wp2_with fail
    go_ret3
    exact ⟨0, 1, false, rfl, H1.out, fun h => absurd h (by omega), fun _ _ => ⟨rfl, rfl, rfl⟩, fun _ h => absurd h Hd.out⟩

set_option maxHeartbeats 400000 in
theorem find_finds (n : Nat) (hn0 : 0 < n) (hn : n ≤ 1000000) (d : Nat → Bool) (Inv : Nat → World → Prop)
    (hcl : Hid (∀ (i : Int) (c : Nat) (W : World), 0 ≤ i → i < n → c ≤ n → Inv c W → Calls Try.prog 85 #[.int .i64 i] W fun e W' => e = .returned (.bool (d i.toNat)) ∧ Inv (c + 1) W'))
    (w : World) (h0 : Hid (Inv 0 w)) :
    Calls Try.prog 15 #[.int .i64 n, .func (.func 85) #[] #[]] w (FindEnd d n Inv) := by
  have hc := hcl.out
  by_cases hd : d (n - 1) = true
  · have Hd := Lib.hid hd
    clear hd hc
    go_enter Try.func15, Try.ntmps15
    go_wp2_with fail
    refine (hcl.out _ 0 _ (by omega) (by omega) (by omega) h0.out).mono ?_
    rintro e w1 ⟨rfl, h1⟩
    have H1 := Lib.hid h1
    clear h1
    rw [show ((n : Int) - 1).toNat = n - 1 from by omega, Hd.out]
    go_wp2_with fail
    go_loopw [5, 7, 8] (fun a l h wr => ∃ lo hi k : Nat, l = .int .i64 lo ∧ h = .int .i64 hi ∧ a = .int .i64 k ∧ lo ≤ hi ∧ hi < n ∧ 1 ≤ k ∧ k + halves (hi - lo + 1) ≤ halves n + 1 ∧ (d hi = true ∧ (0 < lo → d (lo - 1) = false) ∧ Inv k wr))
      (fun _ l h _ => (intOf h - intOf l).toNat)
    case atStart => exact ⟨0, n - 1, 1, rfl, by congr 1; omega, rfl, by omega, by omega, by omega, by rw [show n - 1 - 0 + 1 = n from by omega]; omega, Hd.out, fun h => absurd h (by omega), H1.out⟩
    case round =>
      clear H1 h0
      obtain ⟨lo, hi, k, rfl, rfl, rfl, hle, hlt, hk, hcnt, hr⟩ := hrel
      have HR := Lib.hid hr
      have HC := Lib.hid hcnt
      clear hr hcnt
      by_cases hq : lo < hi
      · have hkn : k ≤ n := by
          have h1 := halves_left lo hi hq
          have h2 := halves_le n
          have := HC.out
          omega
        have hm2 : lo + (hi - lo) / 2 < hi := by omega
        go_wp2_with fail
        refine (hcl.out _ k _ (by omega) (by omega) hkn HR.out.2.2).mono ?_
        rintro e w2 ⟨rfl, h2⟩
        have H2 := Lib.hid h2
        clear h2
        rw [show ((lo : Int) + ((hi : Int) - (lo : Int)) / 2).toNat = lo + (hi - lo) / 2 from by omega]
        by_cases hd2 : d (lo + (hi - lo) / 2) = true
        · rw [hd2]
          have Hd2 := Lib.hid hd2
          clear hd2
          go_wp2_with fail
          go_roundw
          case rel =>
            refine ⟨lo, lo + (hi - lo) / 2, k + 1, rfl, by congr 1; omega, by go_num, by omega, by omega, by omega, ?_, Hd2.out, HR.out.2.1, H2.out⟩
            have h1 := halves_left lo hi hq
            have := HC.out
            omega
          case measure => simp [intOf]; omega
        · rw [Bool.eq_false_iff.2 hd2]
          have Hd2 := Lib.hid hd2
          clear hd2
          go_wp2_with fail
          go_roundw
          case rel =>
            refine ⟨lo + (hi - lo) / 2 + 1, hi, k + 1, by congr 1; omega, rfl, by go_num, by omega, by omega, by omega, ?_, HR.out.1, fun _ => Bool.eq_false_iff.2 Hd2.out, H2.out⟩
            have h1 := halves_right lo hi hq
            have := HC.out
            omega
          case measure => simp [intOf]; omega
      · go_wp2_with fail
        go_ret3
        obtain rfl : lo = hi := by omega
        refine ⟨lo, k, true, rfl, HR.out.2.2, fun h => absurd h (by omega), fun _ h => ?_, fun _ _ => ⟨rfl, hlt, HR.out.1, HR.out.2.1, by omega, ?_⟩⟩
        · have := Hd.out; rw [this] at h; cases h
        · have := HC.out
          omega
  · have Hd := Lib.hid hd
    clear hd hc
    go_enter Try.func15, Try.ntmps15
    go_wp2_with fail
    refine (hcl.out _ 0 _ (by omega) (by omega) (by omega) h0.out).mono ?_
    rintro e w1 ⟨rfl, h1⟩
    have H1 := Lib.hid h1
    clear h1
    rw [show ((n : Int) - 1).toNat = n - 1 from by omega, Bool.eq_false_iff.2 Hd.out]
    go_wp2_with fail
    go_ret3
    exact ⟨0, 1, false, rfl, H1.out, fun h => absurd h (by omega), fun _ _ => ⟨rfl, rfl, rfl⟩, fun _ h => absurd h Hd.out⟩

theorem finds1_any (i : Int) (w : World) : Calls Try.prog 85 #[.int .i64 i] w fun e w' => e = .returned (.bool (decide (3 < i))) ∧ w = w' := by
  go_enter Try.func85, Try.ntmps85
  go_wp2
  go_ret
  exact ⟨rfl, rfl⟩

theorem finds_any (w : World) : Calls Try.prog 14 #[] w fun e w' => e = .returned (.bool true) ∧ w = w' := by
  go_enter Try.func14, Try.ntmps14
  go_wp2_with fail
  refine (find_finds 9 (by omega) (by omega) (fun i => decide (3 < i)) (fun _ W => w = W) (Lib.hid ?_) w (Lib.hid rfl)).mono ?_
  · intro i c W h0 _ _ hW
    refine (finds1_any i W).mono ?_
    rintro e w' ⟨rfl, rfl⟩
    exact ⟨ret1 (boolv (by rw [Bool.eq_iff_iff]; simp <;> omega)), hW⟩
  · intro e w1 h
    obtain ⟨at_, asked, found, rfl, rfl, hp⟩ := h
    obtain ⟨-, -, h3⟩ := hp
    obtain ⟨rfl, h4, h5, h6, h7, -⟩ := h3 (by omega) (by decide)
    obtain rfl : at_ = 4 := by
      simp at h5 h6
      omega
    clear h3 h6
    go_wp2
    go_ret
    exact ⟨ret1 (boolv (by simp; omega)), rfl⟩

/-- What stands in memory while Find asks the closure of LeastSays: S: its first block. -/
def Asks (w : World) (S : Nat) (al : Option Addr) (nl cl : Nat) (ls : Nat → Bool) (c : Nat) (W : World) : Prop :=
  Below S w W ∧ S + 4 ≤ W.heap.size ∧ Row S W al nl (fun k => .bool (ls k)) ∧
  W.cell? ⟨S, 0, none⟩ = some (.slice al nl cl) ∧ W.cell? ⟨S + 1, 0, none⟩ = some (.int .i64 nl) ∧
  W.cell? ⟨S + 1 + 1, 0, none⟩ = some (.bool false) ∧ W.cell? ⟨S + 1 + 1 + 1, 0, none⟩ = some (.int .i64 c) ∧ W.frozen? ⟨S + 1 + 1 + 1, 0, none⟩ = false

theorem asks_any (w : World) (S : Nat) (al : Option Addr) (nl cl : Nat) (ls : Nat → Bool) (hn : nl ≤ 300) (i : Int) (c : Nat) (W : World)
    (h0 : 0 ≤ i) (hi : i < nl) (hc : c ≤ nl) (h : Hid (Asks w S al nl cl ls c W)) :
    Calls Try.prog 16 #[.int .i64 i, .pointer (some ⟨S + 1 + 1 + 1, 0, none⟩), .pointer (some ⟨S + 1, 0, none⟩), .pointer (some ⟨S + 1 + 1, 0, none⟩), .pointer (some ⟨S, 0, none⟩)] W
      fun e W' => e = .returned (.bool (ls i.toNat)) ∧ Asks w S al nl cl ls (c + 1) W' := by
  obtain ⟨b1, b2, b3, c0, c1, c2, c3, c4⟩ := h.out
  obtain ⟨b, o, rfl, hlt, hx⟩ := b3 i.toNat (by omega)
  obtain ⟨i, rfl⟩ := Int.eq_ofNat_of_zero_le h0
  rw [Int.toNat_natCast] at *
  have hb : (b == S + 1 + 1 + 1) = false := by simp; omega
  go_enter Try.func16, Try.ntmps16
  go_wp2
  go_ret
  exact ⟨rfl, b1.setCell (by show S ≤ S + 1 + 1 + 1; omega) _, by simpa using b2, b3.set (by show S ≤ S + 1 + 1 + 1; omega) _,
    (cell_blk (by omega)).trans c0, (cell_blk (by omega)).trans c1, (cell_blk (by omega)).trans c2, cell_same c3, free_set.trans c4⟩

set_option maxHeartbeats 800000 in
theorem first_any (a b : Option Addr) (na ca nb cb : Nat) (A B : List Int) (ha : A.length = na) (hb : B.length = nb) (hna : na ≤ 1000) (hnb : nb ≤ 1000)
    (w : World) (hA : Hid (Row w.heap.size w a na (fun k => .int .u64 (A.getD k 0)))) (hB : Hid (Row w.heap.size w b nb (fun k => .int .u64 (B.getD k 0)))) :
    Calls Try.prog 17 #[.slice a na ca, .slice b nb cb] w
      fun e w' => e = .returned (.tuple #[.int .i64 (samePre A B), .bool (decide (samePre A B < na ∨ samePre A B < nb))]) ∧ Below w.heap.size w w' := by
  have ha' := Lib.hid ha
  have hb' := Lib.hid hb
  clear ha hb
  generalize hS : samePre A B = S
  have HS := Lib.hid hS
  clear hS
  rcases Nat.lt_or_ge nb na with hmn | hmn
  all_goals
    go_enter Try.func17, Try.ntmps17
    go_wp2
    all_goals
      go_loopw [12] (fun c wr => ∃ k : Nat, c = .int .i64 k ∧ k ≤ na ∧ k ≤ nb ∧ (∀ i, i < k → A.getD i 0 = B.getD i 0) ∧ Below w.heap.size w wr)
        (fun c _ => (na + nb - intOf c).toNat)
      case atStart => exact ⟨0, rfl, by omega, by omega, fun i h => absurd h (by omega), Below.refl _ _⟩
      case round =>
        obtain ⟨k, rfl, hka, hkb, hsame, hbel⟩ := hrel
        have HS1 := Lib.hid hsame
        clear hsame
        by_cases hk : k < na ∧ k < nb
        · obtain ⟨ka, kb⟩ := hk
          obtain ⟨b1, o1, rfl, hlt1, hx1⟩ := (hA.out.below hbel) k ka
          obtain ⟨b2, o2, rfl, hlt2, hx2⟩ := (hB.out.below hbel) k kb
          obtain ⟨x, hx⟩ : ∃ x, A.getD k 0 = x := ⟨_, rfl⟩
          obtain ⟨y, hy⟩ : ∃ y, B.getD k 0 = y := ⟨_, rfl⟩
          simp only [hx] at hx1
          simp only [hy] at hx2
          have HX := Lib.hid hx
          have HY := Lib.hid hy
          clear hx hy
          by_cases hxy : x = y
          · have e1 : (x != y) = false := by simp [hxy]
            have HXY := Lib.hid hxy
            clear hxy
            go_wp2
            go_quiet (fail)
            go_wp2
            go_roundw
            case rel =>
              refine ⟨k + 1, by go_num, by omega, by omega, ?_, below_drewN hbel _⟩
              intro i hi
              by_cases hik : i = k
              · rw [hik, HX.out, HY.out]; exact HXY.out
              · exact HS1.out i (by omega)
            case measure => simp [intOf]; omega
          · have e1 : (x != y) = true := by simp [hxy]
            have HXY := Lib.hid hxy
            clear hxy
            go_wp2
            go_quiet (fail)
            go_wp2
            go_ret2
            have hS : S = k := by
              rw [← HS.out]
              have h1 := ha'.out
              have h2 := hb'.out
              exact samePre_unique A B k HS1.out (by omega) (by omega) (fun _ _ => by rw [HX.out, HY.out]; exact HXY.out)
            subst hS
            exact ⟨ret2 rfl (boolv (by simp [ka])), below_drewN hbel _⟩
        · go_wp2
          go_ret2
          have hS : S = k := by
            rw [← HS.out]
            have h1 := ha'.out
            have h2 := hb'.out
            exact samePre_unique A B k HS1.out (by omega) (by omega) (fun _ _ => by omega)
          subst hS
          exact ⟨ret2 (intv (by omega)) (boolv (by rw [Bool.eq_iff_iff]; simp; omega)), hbel⟩
end Go.Proofs.Ytlfljlhppigejaa
