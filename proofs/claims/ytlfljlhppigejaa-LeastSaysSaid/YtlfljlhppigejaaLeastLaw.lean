/-
  The walk of the statement LeastSays.
-/
import Derived.Test.YtlfljlhppigejaaLeastWalk
namespace Go.Proofs.Ytlfljlhppigejaa
open Go.RowKit


/-- What the search left, for the statement. -/
theorem find_yes {d : Nat → Bool} {n a k : Nat} {f : Bool} (h : FindPost d n a k f) (hn : 0 < n) (hd : d (n - 1) = true) :
    f = true ∧ a < n ∧ d a = true ∧ (0 < a → d (a - 1) = false) ∧ k ≤ halves n + 2 := by
  obtain ⟨a1, a2, a3, a4, a5, a6⟩ := h.2.2 hn hd
  exact ⟨a1, a2, a3, a4, by omega⟩

set_option maxHeartbeats 6400000 in
set_option maxRecDepth 100000 in
theorem least_law (al a b : Option Addr) (nl cl na ca nb cb : Nat) (ls : Nat → Bool) (A B : List Int) (hA : A.length = na) (hB : B.length = nb)
    (w : World) (rl : Row w.heap.size w al nl (fun k => .bool (ls k))) (ra : Row w.heap.size w a na (fun k => .int .u64 (A.getD k 0)))
    (rb : Row w.heap.size w b nb (fun k => .int .u64 (B.getD k 0))) :
    Calls Try.prog 3 #[.slice al nl cl, .slice a na ca, .slice b nb cb] w (TrueBelow w) := by
  have HA := Lib.hid hA
  have HB := Lib.hid hB
  have RL := Lib.hid rl
  have RA := Lib.hid ra
  have RB := Lib.hid rb
  clear hA hB rl ra rb
  by_cases h1 : 300 < nl
  · go_enter Try.func3, Try.ntmps3
    go_wp2_with (go_at_call 14; refine (finds_any _).mono ?_; rintro e w' ⟨rfl, rfl⟩)
    go_ret
    exact tb rfl ((Below.refl _ _).alloc (Nat.le_refl _) _)
  by_cases h2 : 100 < na
  · go_enter Try.func3, Try.ntmps3
    go_wp2_with (go_at_call 14; refine (finds_any _).mono ?_; rintro e w' ⟨rfl, rfl⟩)
    go_ret
    exact tb rfl ((Below.refl _ _).alloc (Nat.le_refl _) _)
  by_cases h3 : 100 < nb
  · go_enter Try.func3, Try.ntmps3
    go_wp2_with (go_at_call 14; refine (finds_any _).mono ?_; rintro e w' ⟨rfl, rfl⟩)
    go_ret
    exact tb rfl ((Below.refl _ _).alloc (Nat.le_refl _) _)
  go_enter Try.func3, Try.ntmps3
  go_wp2_with (go_at_call 14; refine (finds_any _).mono ?_; rintro e w' ⟨rfl, rfl⟩)
  by_cases hz : nl = 0
  · subst hz
    refine (find_nil _ 0 (by omega) _).mono ?_
    rintro e w' ⟨rfl, rfl⟩
    go_wp2_with fail
    go_loop [14, 15] (fun h k => h = .int .i64 0 ∧ k = .int .i64 0) (fun _ k => (intOf k).toNat)
    case atStart => exact ⟨rfl, rfl⟩
    case round =>
      obtain ⟨rfl, rfl⟩ := hrel
      go_wp2_with fail
      have b1 : Below w.heap.size w ((((w.alloc (.cells #[.slice al 0 cl] 22)).alloc (.cells #[.int .i64 0] 3)).alloc (.cells #[.bool false] 4)).alloc (.cells #[.int .i64 0] 3)) :=
        ((((Below.refl _ _).alloc (Nat.le_refl _) _).alloc (by simp) _).alloc (by simp; omega) _).alloc (by simp; omega) _
      generalize ((((w.alloc (.cells #[.slice al 0 cl] 22)).alloc (.cells #[.int .i64 0] 3)).alloc (.cells #[.bool false] 4)).alloc (.cells #[.int .i64 0] 3)) = w1 at *
      have hA1 : Row w1.heap.size w1 a na (fun k => .int .u64 (A.getD k 0)) := (RA.out.below b1).mono b1.size
      have hB1 : Row w1.heap.size w1 b nb (fun k => .int .u64 (B.getD k 0)) := (RB.out.below b1).mono b1.size
      refine (first_any a b na ca nb cb A B HA.out HB.out (by omega) (by omega) w1 (Lib.hid hA1) (Lib.hid hB1)).mono ?_
      rintro e w2 ⟨rfl, hb2⟩
      clear hA1 hB1
      have b2' : Below w.heap.size w w2 := b1.trans (hb2.mono b1.size)
      clear b1 hb2
      obtain ⟨S, hS⟩ : ∃ S, samePre A B = S := ⟨_, rfl⟩
      have HS := Lib.hid hS
      have hSl := samePre_le A B
      rw [hS] at hSl ⊢
      have hSa : S ≤ na := by have := HA.out; omega
      have hSb : S ≤ nb := by have := HB.out; omega
      clear hS hSl
      go_wp2_with fail
      go_loopw [18] (fun k wr => ∃ x : Nat, k = .int .i64 x ∧ x ≤ S ∧ Below w.heap.size w wr) (fun k _ => (S - intOf k).toNat)
      case atStart => exact ⟨0, rfl, by omega, b2'⟩
      case round =>
        clear b2'
        obtain ⟨x, rfl, hxS, hbel⟩ := hrel
        by_cases ha : x < na
        · by_cases hb : x < nb
          · obtain ⟨p1, o1, rfl, hlt1, hx1⟩ := (RA.out.below hbel) x ha
            obtain ⟨p2, o2, rfl, hlt2, hx2⟩ := (RB.out.below hbel) x hb
            by_cases hlt : x < S
            · have he := samePre_eq A B x (by rw [HS.out]; exact hlt)
              simp only [he] at hx1
              obtain ⟨v, hv⟩ : ∃ v, B.getD x 0 = v := ⟨_, rfl⟩
              simp only [hv] at hx1 hx2
              clear he hv
              go_wp2
              go_quiet (fail)
              go_wp2
              go_roundw
              case rel => exact ⟨x + 1, by go_num, by omega, below_drewN hbel _⟩
              case measure => simp [intOf]; omega
            · obtain rfl : x = S := by omega
              have he := samePre_ne A B (by rw [HS.out, HA.out]; exact ha) (by rw [HS.out, HB.out]; exact hb)
              rw [HS.out] at he
              obtain ⟨u, hu⟩ : ∃ u, A.getD x 0 = u := ⟨_, rfl⟩
              obtain ⟨v, hv⟩ : ∃ v, B.getD x 0 = v := ⟨_, rfl⟩
              rw [hu, hv] at he
              simp only [hu] at hx1
              simp only [hv] at hx2
              clear hu hv
              have he1 : (u == v) = false := by simp [he]
              clear he
              go_wp2
              go_quiet (fail)
              go_wp2
              go_ret
              exact tb (boolv (by simp)) (below_drewN hbel _)
          · have hbf : decide ((x : Int) < (nb : Int)) = false := by simp; omega
            obtain rfl : x = S := by omega
            go_wp2
            go_quiet (fail)
            go_wp2
            go_ret
            exact tb (boolv (by simp)) (below_drewN hbel _)
        · have haf : decide ((x : Int) < (na : Int)) = false := by simp; omega
          obtain rfl : x = S := by omega
          go_wp2
          go_quiet (fail)
          go_wp2
          go_ret
          exact tb (boolv (by simp)) (below_drewN hbel _)
  · have hbx : Asks w w.heap.size al nl cl ls 0 ((((w.alloc (.cells #[.slice al nl cl] 22)).alloc (.cells #[.int .i64 nl] 3)).alloc (.cells #[.bool false] 4)).alloc (.cells #[.int .i64 0] 3)) := by
      refine ⟨((((Below.refl _ _).alloc (Nat.le_refl _) _).alloc (by simp) _).alloc (by simp; omega) _).alloc (by simp; omega) _, by simp, ?_, ?_, ?_, ?_, ?_, ?_⟩
      · exact RL.out.below (((((Below.refl _ _).alloc (Nat.le_refl _) _).alloc (by simp) _).alloc (by simp; omega) _).alloc (by simp; omega) _)
      all_goals simp [go_sem]
    refine (find_laws _ _ _ _ nl (by omega) (by omega) ls (Asks w w.heap.size al nl cl ls) (Lib.hid (fun i c W h0 hi hc hA => asks_any w _ al nl cl ls (by omega) i c W h0 hi hc (Lib.hid hA))) _ (Lib.hid hbx)).mono ?_
    intro e w1 hend
    obtain ⟨at_, asked, found, rfl, hInv, hpost⟩ := hend
    obtain ⟨b1, b2, b3, c0, c1, c2, c3, c4⟩ := hInv
    by_cases hd : ls (nl - 1) = true
    · have hy := find_yes hpost (by omega) hd
      obtain ⟨rfl, y1, y2, y3, y4⟩ := hy
      have Y3 := Lib.hid y3
      have Y2 := Lib.hid y2
      have HD := Lib.hid hd
      have HP := Lib.hid hpost
      have B3 := Lib.hid b3
      clear y2 y3 hd hpost b3
      have hsz : w.heap.size + 4 ≤ w1.heap.size := b2
      go_wp2_with fail
      go_loop [14, 15] (fun h k => ∃ x y : Nat, h = .int .i64 x ∧ k = .int .i64 y ∧ x + halves y = halves nl ∧ y ≤ nl ∧ x ≤ nl) (fun _ k => (intOf k).toNat)
      case atStart => exact ⟨0, nl, rfl, rfl, by omega, by omega, by omega⟩
      case round =>
        obtain ⟨x, y, rfl, rfl, hx, hy, hxn⟩ := hrel
        have HX := Lib.hid hx
        clear hx
        have hxn2 : x + (if 1 < y then 1 else 0) ≤ nl := by
          have h1 := halves_le nl
          have h2 := HX.out
          split
          · rename_i h3
            have := halves_step y h3
            omega
          · omega
        by_cases hy1 : 1 < y
        · rw [if_pos hy1] at hxn2
          go_wp2_with fail
          go_round
          case rel =>
            refine ⟨x + 1, (y + 1) / 2, by go_num, intv (by omega), ?_, by omega, by omega⟩
            have := halves_step y hy1
            have := HX.out
            omega
          case measure => simp [intOf]; omega
        · clear hxn2
          obtain rfl : x = halves nl := by have := HX.out; rw [halves_done y (by omega)] at this; omega
          obtain ⟨hv, hhv⟩ : ∃ hv, halves nl = hv := ⟨_, rfl⟩
          rw [hhv] at y4 hxn ⊢
          clear HX hhv
          obtain ⟨bb, oo, rfl, hbb, -⟩ := B3.out 0 (by omega)
          have g0 := B3.out.at (nl - 1) (by omega)
          have g1 := B3.out.at at_ y1
          have g2 := B3.out.at (at_ - 1) (by omega)
          simp only [HD.out] at g0
          simp only [Y2.out] at g1
          have hp : 0 < nl := by omega
          by_cases hat : 0 < at_
          · simp only [Y3.out hat] at g2
            go_wp2_with fail
            have hA1 : Row w1.heap.size w1 a na (fun k => .int .u64 (A.getD k 0)) := (RA.out.below b1).mono b1.size
            have hB1 : Row w1.heap.size w1 b nb (fun k => .int .u64 (B.getD k 0)) := (RB.out.below b1).mono b1.size
            refine (first_any a b na ca nb cb A B HA.out HB.out (by omega) (by omega) w1 (Lib.hid hA1) (Lib.hid hB1)).mono ?_
            rintro e w2 ⟨rfl, hb2⟩
            clear hA1 hB1
            have b2' : Below w.heap.size w w2 := b1.trans (hb2.mono b1.size)
            clear b1 hb2
            obtain ⟨S, hS⟩ : ∃ S, samePre A B = S := ⟨_, rfl⟩
            have HS := Lib.hid hS
            have hSl := samePre_le A B
            rw [hS] at hSl ⊢
            have hSa : S ≤ na := by have := HA.out; omega
            have hSb : S ≤ nb := by have := HB.out; omega
            clear hS hSl
            go_wp2_with fail
            go_loopw [18] (fun k wr => ∃ x : Nat, k = .int .i64 x ∧ x ≤ S ∧ Below w.heap.size w wr) (fun k _ => (S - intOf k).toNat)
            case atStart => exact ⟨0, rfl, by omega, b2'⟩
            case round =>
              clear b2'
              obtain ⟨x, rfl, hxS, hbel⟩ := hrel
              by_cases ha : x < na
              · by_cases hb : x < nb
                · obtain ⟨p1, o1, rfl, hlt1, hx1⟩ := (RA.out.below hbel) x ha
                  obtain ⟨p2, o2, rfl, hlt2, hx2⟩ := (RB.out.below hbel) x hb
                  by_cases hlt : x < S
                  · have he := samePre_eq A B x (by rw [HS.out]; exact hlt)
                    simp only [he] at hx1
                    obtain ⟨v, hv⟩ : ∃ v, B.getD x 0 = v := ⟨_, rfl⟩
                    simp only [hv] at hx1 hx2
                    clear he hv
                    go_wp2
                    go_quiet (fail)
                    go_wp2
                    go_roundw
                    case rel => exact ⟨x + 1, by go_num, by omega, below_drewN hbel _⟩
                    case measure => simp [intOf]; omega
                  · obtain rfl : x = S := by omega
                    have he := samePre_ne A B (by rw [HS.out, HA.out]; exact ha) (by rw [HS.out, HB.out]; exact hb)
                    rw [HS.out] at he
                    obtain ⟨u, hu⟩ : ∃ u, A.getD x 0 = u := ⟨_, rfl⟩
                    obtain ⟨v, hv⟩ : ∃ v, B.getD x 0 = v := ⟨_, rfl⟩
                    rw [hu, hv] at he
                    simp only [hu] at hx1
                    simp only [hv] at hx2
                    clear hu hv
                    have he1 : (u == v) = false := by simp [he]
                    clear he
                    go_wp2
                    go_quiet (fail)
                    go_wp2
                    go_ret
                    exact tb (boolv (by simp)) (below_drewN hbel _)
                · have hbf : decide ((x : Int) < (nb : Int)) = false := by simp; omega
                  obtain rfl : x = S := by omega
                  go_wp2
                  go_quiet (fail)
                  go_wp2
                  go_ret
                  exact tb (boolv (by simp)) (below_drewN hbel _)
              · have haf : decide ((x : Int) < (na : Int)) = false := by simp; omega
                obtain rfl : x = S := by omega
                go_wp2
                go_quiet (fail)
                go_wp2
                go_ret
                exact tb (boolv (by simp)) (below_drewN hbel _)
          · obtain rfl : at_ = 0 := by omega
            clear g2
            simp only [Nat.add_zero] at g1
            go_wp2_with fail
            have hA1 : Row w1.heap.size w1 a na (fun k => .int .u64 (A.getD k 0)) := (RA.out.below b1).mono b1.size
            have hB1 : Row w1.heap.size w1 b nb (fun k => .int .u64 (B.getD k 0)) := (RB.out.below b1).mono b1.size
            refine (first_any a b na ca nb cb A B HA.out HB.out (by omega) (by omega) w1 (Lib.hid hA1) (Lib.hid hB1)).mono ?_
            rintro e w2 ⟨rfl, hb2⟩
            clear hA1 hB1
            have b2' : Below w.heap.size w w2 := b1.trans (hb2.mono b1.size)
            clear b1 hb2
            obtain ⟨S, hS⟩ : ∃ S, samePre A B = S := ⟨_, rfl⟩
            have HS := Lib.hid hS
            have hSl := samePre_le A B
            rw [hS] at hSl ⊢
            have hSa : S ≤ na := by have := HA.out; omega
            have hSb : S ≤ nb := by have := HB.out; omega
            clear hS hSl
            go_wp2_with fail
            go_loopw [18] (fun k wr => ∃ x : Nat, k = .int .i64 x ∧ x ≤ S ∧ Below w.heap.size w wr) (fun k _ => (S - intOf k).toNat)
            case atStart => exact ⟨0, rfl, by omega, b2'⟩
            case round =>
              clear b2'
              obtain ⟨x, rfl, hxS, hbel⟩ := hrel
              by_cases ha : x < na
              · by_cases hb : x < nb
                · obtain ⟨p1, o1, rfl, hlt1, hx1⟩ := (RA.out.below hbel) x ha
                  obtain ⟨p2, o2, rfl, hlt2, hx2⟩ := (RB.out.below hbel) x hb
                  by_cases hlt : x < S
                  · have he := samePre_eq A B x (by rw [HS.out]; exact hlt)
                    simp only [he] at hx1
                    obtain ⟨v, hv⟩ : ∃ v, B.getD x 0 = v := ⟨_, rfl⟩
                    simp only [hv] at hx1 hx2
                    clear he hv
                    go_wp2
                    go_quiet (fail)
                    go_wp2
                    go_roundw
                    case rel => exact ⟨x + 1, by go_num, by omega, below_drewN hbel _⟩
                    case measure => simp [intOf]; omega
                  · obtain rfl : x = S := by omega
                    have he := samePre_ne A B (by rw [HS.out, HA.out]; exact ha) (by rw [HS.out, HB.out]; exact hb)
                    rw [HS.out] at he
                    obtain ⟨u, hu⟩ : ∃ u, A.getD x 0 = u := ⟨_, rfl⟩
                    obtain ⟨v, hv⟩ : ∃ v, B.getD x 0 = v := ⟨_, rfl⟩
                    rw [hu, hv] at he
                    simp only [hu] at hx1
                    simp only [hv] at hx2
                    clear hu hv
                    have he1 : (u == v) = false := by simp [he]
                    clear he
                    go_wp2
                    go_quiet (fail)
                    go_wp2
                    go_ret
                    exact tb (boolv (by simp)) (below_drewN hbel _)
                · have hbf : decide ((x : Int) < (nb : Int)) = false := by simp; omega
                  obtain rfl : x = S := by omega
                  go_wp2
                  go_quiet (fail)
                  go_wp2
                  go_ret
                  exact tb (boolv (by simp)) (below_drewN hbel _)
              · have haf : decide ((x : Int) < (na : Int)) = false := by simp; omega
                obtain rfl : x = S := by omega
                go_wp2
                go_quiet (fail)
                go_wp2
                go_ret
                exact tb (boolv (by simp)) (below_drewN hbel _)
    · have hn := hpost.2.1 (by omega) (Bool.eq_false_iff.2 hd)
      obtain ⟨rfl, rfl, rfl⟩ := hn
      have HD := Lib.hid hd
      have HP := Lib.hid hpost
      have B3 := Lib.hid b3
      clear hd hpost b3
      have hsz : w.heap.size + 4 ≤ w1.heap.size := b2
      go_wp2_with fail
      go_loop [14, 15] (fun h k => ∃ x y : Nat, h = .int .i64 x ∧ k = .int .i64 y ∧ y ≤ nl ∧ x ≤ nl - y) (fun _ k => (intOf k).toNat)
      case atStart => exact ⟨0, nl, rfl, rfl, by omega, by omega⟩
      case round =>
        obtain ⟨x, y, rfl, rfl, hy, hxn⟩ := hrel
        by_cases hy1 : 1 < y
        · go_wp2_with fail
          go_round
          case rel => exact ⟨x + 1, (y + 1) / 2, by go_num, intv (by omega), by omega, by omega⟩
          case measure => simp [intOf]; omega
        · obtain ⟨bb, oo, rfl, hbb, -⟩ := B3.out 0 (by omega)
          have g0 := B3.out.at (nl - 1) (by omega)
          simp only [Bool.eq_false_iff.2 HD.out] at g0
          have hp : 0 < nl := by omega
          go_wp2_with fail
          have hA1 : Row w1.heap.size w1 a na (fun k => .int .u64 (A.getD k 0)) := (RA.out.below b1).mono b1.size
          have hB1 : Row w1.heap.size w1 b nb (fun k => .int .u64 (B.getD k 0)) := (RB.out.below b1).mono b1.size
          refine (first_any a b na ca nb cb A B HA.out HB.out (by omega) (by omega) w1 (Lib.hid hA1) (Lib.hid hB1)).mono ?_
          rintro e w2 ⟨rfl, hb2⟩
          clear hA1 hB1
          have b2' : Below w.heap.size w w2 := b1.trans (hb2.mono b1.size)
          clear b1 hb2
          obtain ⟨S, hS⟩ : ∃ S, samePre A B = S := ⟨_, rfl⟩
          have HS := Lib.hid hS
          have hSl := samePre_le A B
          rw [hS] at hSl ⊢
          have hSa : S ≤ na := by have := HA.out; omega
          have hSb : S ≤ nb := by have := HB.out; omega
          clear hS hSl
          go_wp2_with fail
          go_loopw [18] (fun k wr => ∃ x : Nat, k = .int .i64 x ∧ x ≤ S ∧ Below w.heap.size w wr) (fun k _ => (S - intOf k).toNat)
          case atStart => exact ⟨0, rfl, by omega, b2'⟩
          case round =>
            clear b2'
            obtain ⟨x, rfl, hxS, hbel⟩ := hrel
            by_cases ha : x < na
            · by_cases hb : x < nb
              · obtain ⟨p1, o1, rfl, hlt1, hx1⟩ := (RA.out.below hbel) x ha
                obtain ⟨p2, o2, rfl, hlt2, hx2⟩ := (RB.out.below hbel) x hb
                by_cases hlt : x < S
                · have he := samePre_eq A B x (by rw [HS.out]; exact hlt)
                  simp only [he] at hx1
                  obtain ⟨v, hv⟩ : ∃ v, B.getD x 0 = v := ⟨_, rfl⟩
                  simp only [hv] at hx1 hx2
                  clear he hv
                  go_wp2
                  go_quiet (fail)
                  go_wp2
                  go_roundw
                  case rel => exact ⟨x + 1, by go_num, by omega, below_drewN hbel _⟩
                  case measure => simp [intOf]; omega
                · obtain rfl : x = S := by omega
                  have he := samePre_ne A B (by rw [HS.out, HA.out]; exact ha) (by rw [HS.out, HB.out]; exact hb)
                  rw [HS.out] at he
                  obtain ⟨u, hu⟩ : ∃ u, A.getD x 0 = u := ⟨_, rfl⟩
                  obtain ⟨v, hv⟩ : ∃ v, B.getD x 0 = v := ⟨_, rfl⟩
                  rw [hu, hv] at he
                  simp only [hu] at hx1
                  simp only [hv] at hx2
                  clear hu hv
                  have he1 : (u == v) = false := by simp [he]
                  clear he
                  go_wp2
                  go_quiet (fail)
                  go_wp2
                  go_ret
                  exact tb (boolv (by simp)) (below_drewN hbel _)
              · have hbf : decide ((x : Int) < (nb : Int)) = false := by simp; omega
                obtain rfl : x = S := by omega
                go_wp2
                go_quiet (fail)
                go_wp2
                go_ret
                exact tb (boolv (by simp)) (below_drewN hbel _)
            · have haf : decide ((x : Int) < (na : Int)) = false := by simp; omega
              obtain rfl : x = S := by omega
              go_wp2
              go_quiet (fail)
              go_wp2
              go_ret
              exact tb (boolv (by simp)) (below_drewN hbel _)
end Go.Proofs.Ytlfljlhppigejaa
