/-
  The walk of the statement TopWire.
-/
import Derived.Test.YtlfljlhppigejaaWireOpen
import Derived.Test.YtlfljlhppigejaaTakePure
import Derived.Test.YtlfljlhppigejaaCrcPure
import Derived.Test.YtlfljlhppigejaaWireLaw
import Derived.RegionTactic
import Derived.BigRegion
namespace Go.Proofs.Ytlfljlhppigejaa
open Go.RowKit

/-- What '[]byte(s)' leaves. -/
def bytesWorld (w : World) (s : ByteArray) : World :=
  w.drew.alloc (.cells (bytesRow s (grownCap w s.size 0 5)) 5 ((bytesRow s (grownCap w s.size 0 5)).size, (bytesRow s (grownCap w s.size 0 5)).size + 1))
theorem bytes_run (s : ByteArray) (w : World) : (convert 9 113 (.string s)).run Try.prog w = .ok (.slice (some ⟨w.heap.size, 0, none⟩) s.size (grownCap w s.size 0 5)) (bytesWorld w s) :=
  run_bytes_of_string w 9 113 5 s Try.underlying9 Try.underlying113 Try.underlying5
theorem bytesWorld_below (w : World) (s : ByteArray) : Below w.heap.size w (bytesWorld w s) := ((Below.refl _ w).drew).alloc (Nat.le_refl _) _
theorem bytesWorld_size (w : World) (s : ByteArray) : (bytesWorld w s).heap.size = w.heap.size + 1 := by simp [bytesWorld]
theorem bytesWorld_cell (w : World) (s : ByteArray) (j : Nat) (hj : j < s.size) : (bytesWorld w s).cell? ⟨w.heap.size, j, none⟩ = some (.int .u8 ((s.data.toList.getD j 0).toNat : Int)) := by
  have h1 := World.cell?_alloc_mark w.drew (bytesRow s (grownCap w s.size 0 5)) 5 ((bytesRow s (grownCap w s.size 0 5)).size, (bytesRow s (grownCap w s.size 0 5)).size + 1) j
  have h2 := bytesRow_at s (grownCap w s.size 0 5) j (by simpa using hj)
  have h3 : (bytesWorld w s).cell? ⟨w.heap.size, j, none⟩ = _ := h1
  rw [h3, h2]
  congr 3
  simp [List.getD, hj]
theorem bytesWorld_free (w : World) (s : ByteArray) (j : Nat) (hj : j < s.size) : (bytesWorld w s).frozen? ⟨w.heap.size, j, none⟩ = false := by
  have h1 := World.frozen?_alloc_mark w.drew (bytesRow s (grownCap w s.size 0 5)) 5 (bytesRow s (grownCap w s.size 0 5)).size ((bytesRow s (grownCap w s.size 0 5)).size + 1) j
  have h3 : (bytesWorld w s).frozen? ⟨w.heap.size, j, none⟩ = _ := h1
  have h4 := bytesRow_at s (grownCap w s.size 0 5) j (by simpa using hj)
  have h5 : j < (bytesRow s (grownCap w s.size 0 5)).size := by
    rcases Nat.lt_or_ge j (bytesRow s (grownCap w s.size 0 5)).size with h | h
    · exact h
    · rw [Array.getElem?_eq_none h] at h4; cases h4
  rw [h3]
  simp
  omega

theorem bitAt_set (L : List UInt8) (P : Nat) (d c : UInt8) (x y : Nat) (hP : P = y / 8) (hc : L.getD P 0 = c) (hlt : P < L.length) (hd : ∀ i, i ≠ y % 8 → d.toNat.testBit i = c.toNat.testBit i) (hx : x ≠ y) :
    bitAt (L.set P d) x = bitAt L x := by
  unfold bitAt
  by_cases h : x / 8 = P
  · rw [h, hc]
    have e : (L.set P d).getD P 0 = d := by simp [List.getD, hlt]
    rw [e]
    exact hd _ (by omega)
  · have e : (L.set P d).getD (x / 8) 0 = L.getD (x / 8) 0 := by simp [List.getD, Ne.symm h]
    rw [e]
theorem cells_list (w : World) (S cap : Nat) (L : List UInt8) (n : Nat) (hn : n = L.length) (h : ∀ x, x < n → w.cell? ⟨S, x, none⟩ = some (.int .u8 ((L.getD x 0).toNat : Int))) :
    (convert 113 9 (.slice (some ⟨S, 0, none⟩) n cap)).run Try.prog w = .ok (.string (bstr L)) w := by
  subst hn
  refine run_convert_bytes_back w 113 9 5 ⟨S, 0, none⟩ cap L Try.underlying113 Try.underlying5 Try.underlying9 (fun j hj => ?_)
  have h3 : (⟨S, 0, none⟩ : Addr).add j = ⟨S, j, none⟩ := by
    unfold Addr.add
    split
    · rename_i h; subst h; rfl
    · simp
  rw [h3, h j hj]
  simp [List.getD, hj]

set_option maxHeartbeats 3200000 in
set_option maxRecDepth 100000 in
theorem topwire_law (n : Int) (hn : -9223372036854775808 ≤ n ∧ n < 9223372036854775808) (s : ByteArray) (hs : s.size ≤ maxLen) (k : UInt8) (at_ : Int) (ha : -9223372036854775808 ≤ at_ ∧ at_ < 9223372036854775808) (turn : Int) (w : World) :
    Calls Try.prog 9 #[.int .i64 n, .string s, .int .u8 (k.toNat : Int), .int .i64 at_, .int .u32 turn] w (TrueBelow w) := by
  unfold maxLen at hs
  by_cases hneg : n < 0
  · go_enter Try.func9, Try.ntmps9
    go_wp2_with fail
    refine (num_neg n hneg _).mono ?_
    rintro e w1 ⟨rfl, b1⟩
    go_wp2_with fail
    go_ret
    exact tb rfl b1
  obtain ⟨m, rfl⟩ := Int.eq_ofNat_of_zero_le (show 0 ≤ n by omega)
  by_cases hbig : 300 < s.size
  · go_enter Try.func9, Try.ntmps9
    go_wp2_with fail
    refine (num_any m (by omega) _).mono ?_
    rintro e w1 ⟨rfl, b1⟩
    go_wp2_with fail
    go_ret
    exact tb rfl b1
  by_cases hat : at_ < 0
  · go_enter Try.func9, Try.ntmps9
    go_wp2_with fail
    refine (num_any m (by omega) _).mono ?_
    rintro e w1 ⟨rfl, b1⟩
    go_wp2_with fail
    go_ret
    exact tb rfl b1
  obtain ⟨p, rfl⟩ := Int.eq_ofNat_of_zero_le (show 0 ≤ at_ by omega)
  have hcv := fun F : ByteArray => bytes_run F
  have HCV := Lib.hid hcv
  clear hcv
  go_enter Try.func9, Try.ntmps9
  go_wp2_with fail
  refine (num_any m (by omega) _).mono ?_
  rintro e w1 ⟨rfl, b1⟩
  obtain ⟨N, hN⟩ : ∃ N, bstr (numL m) = N := ⟨_, rfl⟩
  have hNl : N.data.toList = numL m := by rw [← hN, bstr_list]
  have hNs : N.size ≤ 100 := by
    have h1 := congrArg List.length hNl
    simp at h1
    rw [h1]
    have : ∀ f n, (numF f n).length ≤ f + 1 := by
      intro f
      induction f with
      | zero => intro n; simp [numF]
      | succ f ih => intro n; rw [numF]; split <;> simp; have := ih (n / 128); omega
    have := this 9 m
    unfold numL
    omega
  rw [hN]
  have HN := Lib.hid hNl
  clear hN hNl
  go_wp2_with fail
  refine (take_any (N ++ s) (by simp [ByteArray.size_append]; omega) _).mono ?_
  rintro e w2 ⟨rfl, b2⟩
  have bb := b1.trans (b2.mono b1.size)
  clear b1 b2
  rw [list_append, HN.out, takeL_num m _ (by omega), bstr_of, errV_zero]
  go_wp2_with fail
  refine (take_any s (by omega) _).mono ?_
  rintro e w3 ⟨rfl, b3⟩
  have b4 := bb.trans (b3.mono bb.size)
  clear bb b3
  obtain ⟨r, hr⟩ : ∃ r, takeL s.data.toList = r := ⟨_, rfl⟩
  rw [hr]
  obtain ⟨y, left, f⟩ := r
  have HR := Lib.hid hr
  clear hr
  have hpart : ∀ w5, Below w.heap.size w w5 → True := fun _ _ => trivial
  clear hpart
  by_cases hf : f = 0
  · subst hf
    obtain ⟨hy, hinv⟩ := takeL_inv _ _ _ HR.out
    have HI := Lib.hid hinv
    clear hinv
    rw [errV_zero]
    go_wp2_with fail
    refine (num_any y hy _).mono ?_
    rintro e w5 ⟨rfl, b5⟩
    have b6 := b4.trans (b5.mono b4.size)
    clear b4 b5
    have hcat : Hid (bstr (numL y) ++ bstr left = s) := by
      show _ = _
      rw [← bstr_of (bstr (numL y) ++ bstr left), list_append, bstr_list, bstr_list, HI.out, bstr_of]
    obtain ⟨Y, hY⟩ : ∃ Y, bstr (numL y) = Y := ⟨_, rfl⟩
    obtain ⟨Z, hZ⟩ : ∃ Z, bstr left = Z := ⟨_, rfl⟩
    rw [hY, hZ] at hcat
    rw [hY, hZ]
    have hsz : Y.size + Z.size = s.size := by rw [← hcat.out, ByteArray.size_append]
    have hcat2 := hcat.out
    clear hY hZ
    go_wp2_with fail
    refine (frame_any k s (by omega) _).mono ?_
    rintro e w8 ⟨rfl, b8⟩
    have b9 := b6.trans (b8.mono b6.size)
    clear b6 b8
    obtain ⟨F, hF⟩ : ∃ F, bstr (frameL k s.data.toList) = F := ⟨_, rfl⟩
    have hFl : F.data.toList = frameL k s.data.toList := by rw [← hF, bstr_list]
    have hFs : F.size = s.size + 8 := by
      have h1 := congrArg List.length hFl
      rw [frameL_length] at h1
      simp at h1
      omega
    rw [hF]
    have HFL := Lib.hid hFl
    have HFS := Lib.hid hFs
    have hF8 : 8 ≤ F.size := by omega
    have hF9 : F.size ≤ 308 := by omega
    clear hF hFl hFs
    go_wp2_with fail
    refine (open_any k F (by omega) _).mono ?_
    rintro e w10 ⟨rfl, b10⟩
    have b11 := b9.trans (b10.mono b9.size)
    clear b9 b10
    rw [HFL.out, openL_frame, bstr_of, errV_zero]
    have hcv := HCV.out F
    go_wp2_with fail
    clear hcv
    have b12 : Below w.heap.size w (bytesWorld w10 F) := b11.trans ((bytesWorld_below w10 F).mono b11.size)
    have hc0 := fun j (hj : j < F.size) => bytesWorld_cell w10 F j hj
    have hf0 := fun j (hj : j < F.size) => bytesWorld_free w10 F j hj
    have hz0 := bytesWorld_size w10 F
    have hS : w.heap.size ≤ w10.heap.size := b11.size
    generalize grownCap w10 F.size 0 5 = cap
    generalize bytesWorld w10 F = W at *
    obtain ⟨S, hS0⟩ : ∃ S, w10.heap.size = S := ⟨_, rfl⟩
    rw [hS0] at hc0 hf0 hz0 hS
    rw [hS0]
    have HC0 := Lib.hid hc0
    have HF0 := Lib.hid hf0
    clear hc0 hf0 hS0 b11
    obtain ⟨q, hq, hq2⟩ : ∃ q : Nat, (p : Int) % (8 * (F.size : Int)) = (q : Int) ∧ q < 8 * F.size := by
      have h1 := Int.emod_nonneg (p : Int) (show (8 * (F.size : Int)) ≠ 0 by omega)
      have h2 := Int.emod_lt_of_pos (p : Int) (show 0 < 8 * (F.size : Int) by omega)
      exact ⟨((p : Int) % (8 * (F.size : Int))).toNat, by omega, by omega⟩
    rw [hq]
    clear hq
    go_loopw [22] (fun i wr => ∃ (j : Nat) (L : List UInt8), i = .int .i64 j ∧ j ≤ 32 ∧ L.length = F.size ∧ S < wr.heap.size ∧ ((∀ x, x < 8 * F.size → (x < q ∨ q + 32 ≤ x) → bitAt L x = bitAt (frameL k s.data.toList) x) ∧
        (∀ x, x < F.size → wr.cell? ⟨S, x, none⟩ = some (.int .u8 ((L.getD x 0).toNat : Int))) ∧ (∀ x, x < F.size → wr.frozen? ⟨S, x, none⟩ = false) ∧ Below w.heap.size w wr)) (fun i _ => (32 - intOf i).toNat)
    case atStart => exact ⟨0, F.data.toList, rfl, by omega, by simp, by omega, fun x _ _ => by rw [HFL.out], HC0.out, HF0.out, b12⟩
    case round =>
      clear b12 HC0 HF0 hz0
      obtain ⟨j, L, rfl, hj, hL, hSw, hX⟩ := hrel
      have HX := Lib.hid hX
      have HLL := Lib.hid hL
      clear hX hL
      by_cases hlt : j < 32 ∧ q + j < 8 * F.size
      · obtain ⟨hj32, hqj⟩ := hlt
        have hcell := HX.out.2.1 ((q + j) / 8) (by omega)
        have hfree := HX.out.2.2.1 ((q + j) / 8) (by omega)
        obtain ⟨c, hc⟩ : ∃ c, L.getD ((q + j) / 8) 0 = c := ⟨_, rfl⟩
        rw [hc] at hcell
        have HC := Lib.hid hc
        have hc8 := c.toNat_lt
        clear hc
        by_cases hbit : (bits .and .u32 (turn / 2 ^ j) 1 == 1) = true
        · obtain ⟨d, hd1, hd2⟩ := flip_bit c ((q + j) % 8) (by omega)
          have HD1 := Lib.hid hd1
          have HD2 := Lib.hid hd2
          have hset : Hid ((∀ x, x < 8 * F.size → (x < q ∨ q + 32 ≤ x) → bitAt (L.set ((q + j) / 8) d) x = bitAt (frameL k s.data.toList) x) ∧
              (∀ x, x < F.size → ((wr.setCell ⟨S, (q + j) / 8, none⟩ (.int .u8 (d.toNat : Int))).drew).cell? ⟨S, x, none⟩ = some (.int .u8 (((L.set ((q + j) / 8) d).getD x 0).toNat : Int))) ∧
              (∀ x, x < F.size → ((wr.setCell ⟨S, (q + j) / 8, none⟩ (.int .u8 (d.toNat : Int))).drew).frozen? ⟨S, x, none⟩ = false) ∧ Below w.heap.size w ((wr.setCell ⟨S, (q + j) / 8, none⟩ (.int .u8 (d.toNat : Int))).drew)) := by
            refine ⟨fun x hx1 hx2 => ?_, fun x hx => ?_, fun x hx => ?_, (HX.out.2.2.2.setCell (by exact hS) _).drew⟩
            · rw [bitAt_set L _ d c x (q + j) rfl HC.out (by have := HLL.out; omega) HD2.out (by omega)]
              exact HX.out.1 x hx1 hx2
            · by_cases hxe : x = (q + j) / 8
              · subst hxe
                have e : (L.set ((q + j) / 8) d).getD ((q + j) / 8) 0 = d := by
                  have := HLL.out
                  simp [List.getD, show (q + j) / 8 < L.length by omega]
                rw [e]
                exact cell_same hcell
              · have e : (L.set ((q + j) / 8) d).getD x 0 = L.getD x 0 := by simp [List.getD, Ne.symm hxe]
                rw [e]
                exact (cell_off (Ne.symm hxe)).trans (HX.out.2.1 x hx)
            · exact free_set.trans (HX.out.2.2.1 x hx)
          clear hd1 hd2
          go_wp2_with fail
          go_region
          go_wp2_with fail
          rw [HD1.out]
          go_roundw
          case rel => exact ⟨j + 1, L.set ((q + j) / 8) d, by go_num, by omega, by rw [List.length_set]; exact HLL.out, by simpa using hSw, hset.out⟩
          case measure => simp [intOf]; omega
        · have hbit' : (bits .and .u32 (turn / 2 ^ j) 1 == 1) = false := by simpa using hbit
          clear hbit
          go_wp2_with fail
          go_roundw
          case rel => exact ⟨j + 1, L, by go_num, by omega, HLL.out, hSw, HX.out⟩
          case measure => simp [intOf]; omega
      · have hcv := cells_list wr S cap L F.size HLL.out.symm HX.out.2.1
        obtain ⟨T, hT⟩ : ∃ T, bstr L = T := ⟨_, rfl⟩
        have hTl : T.data.toList = L := by rw [← hT, bstr_list]
        have hTs : T.size = F.size := by
          have h1 := congrArg List.length hTl
          have h2 := HLL.out
          simp at h1
          omega
        rw [hT] at hcv
        have HTL := Lib.hid hTl
        have hT9 : T.size ≤ 308 := by omega
        have hb13 := Lib.hid HX.out.2.2.2
        have hcvd : ∀ v, (convert 113 9 (.slice (some ⟨S, 0, none⟩) F.size cap)).run Try.prog v = .ok (.string T) v → True := fun _ _ => trivial
        clear hT hTl hTs hcvd
        go_wp2_with fail
        all_goals
          refine (open_any k T (by omega) _).mono ?_
          rintro e w12 ⟨rfl, b14⟩
          have b15 : Below w.heap.size w w12 := hb13.out.trans (b14.mono hb13.out.size)
          rw [HTL.out]
          have hcw := cells_list w12.drew S cap L F.size HLL.out.symm (fun x hx => (b14.cell (p := ⟨S, x, none⟩) hSw).trans (HX.out.2.1 x hx))
          have hTL2 : bstr L = T := by rw [← HTL.out, bstr_of]
          rw [hTL2] at hcw
          have B15 := Lib.hid b15
          clear hcv b14 b15 hTL2
          by_cases hLf : L = frameL k s.data.toList
          · have e1 : (T.toList == F.toList) = true := by rw [Lib.toList_data, Lib.toList_data, HTL.out, HFL.out, hLf]; simp
            rw [hLf, openL_frame, errV_zero]
            have HLf := Lib.hid hLf
            clear hLf
            go_wp2_with fail
            go_region
            go_wp2_with fail
            go_ret
            exact tb rfl B15.out.drew
          · have hne : (openL k L).2 ≠ 0 := fun e => hLf (burst_frame k s.data.toList L q (by rw [HLL.out, ← HFL.out]; simp) e (fun x hx1 hx2 => HX.out.1 x (by rw [HLL.out] at hx1; exact hx1) hx2))
            have e1 : (T.toList == F.toList) = false := by rw [Lib.toList_data, Lib.toList_data, HTL.out, HFL.out]; simpa using hLf
            obtain ⟨r1, hr1⟩ : ∃ r1, openL k L = r1 := ⟨_, rfl⟩
            rw [hr1] at hne ⊢
            obtain ⟨o1, o2⟩ := r1
            rw [errV_pos o2 hne]
            clear hLf hne hr1
            go_wp2_with fail
            go_region
            go_wp2_with fail
            go_ret
            exact tb rfl B15.out.drew
  · rw [errV_pos f hf]
    have b6 := b4
    clear b4
    go_wp2_with fail
    refine (frame_any k s (by omega) _).mono ?_
    rintro e w8 ⟨rfl, b8⟩
    have b9 := b6.trans (b8.mono b6.size)
    clear b6 b8
    obtain ⟨F, hF⟩ : ∃ F, bstr (frameL k s.data.toList) = F := ⟨_, rfl⟩
    have hFl : F.data.toList = frameL k s.data.toList := by rw [← hF, bstr_list]
    have hFs : F.size = s.size + 8 := by
      have h1 := congrArg List.length hFl
      rw [frameL_length] at h1
      simp at h1
      omega
    rw [hF]
    have HFL := Lib.hid hFl
    have HFS := Lib.hid hFs
    have hF8 : 8 ≤ F.size := by omega
    have hF9 : F.size ≤ 308 := by omega
    clear hF hFl hFs
    go_wp2_with fail
    refine (open_any k F (by omega) _).mono ?_
    rintro e w10 ⟨rfl, b10⟩
    have b11 := b9.trans (b10.mono b9.size)
    clear b9 b10
    rw [HFL.out, openL_frame, bstr_of, errV_zero]
    have hcv := HCV.out F
    go_wp2_with fail
    clear hcv
    have b12 : Below w.heap.size w (bytesWorld w10 F) := b11.trans ((bytesWorld_below w10 F).mono b11.size)
    have hc0 := fun j (hj : j < F.size) => bytesWorld_cell w10 F j hj
    have hf0 := fun j (hj : j < F.size) => bytesWorld_free w10 F j hj
    have hz0 := bytesWorld_size w10 F
    have hS : w.heap.size ≤ w10.heap.size := b11.size
    generalize grownCap w10 F.size 0 5 = cap
    generalize bytesWorld w10 F = W at *
    obtain ⟨S, hS0⟩ : ∃ S, w10.heap.size = S := ⟨_, rfl⟩
    rw [hS0] at hc0 hf0 hz0 hS
    rw [hS0]
    have HC0 := Lib.hid hc0
    have HF0 := Lib.hid hf0
    clear hc0 hf0 hS0 b11
    obtain ⟨q, hq, hq2⟩ : ∃ q : Nat, (p : Int) % (8 * (F.size : Int)) = (q : Int) ∧ q < 8 * F.size := by
      have h1 := Int.emod_nonneg (p : Int) (show (8 * (F.size : Int)) ≠ 0 by omega)
      have h2 := Int.emod_lt_of_pos (p : Int) (show 0 < 8 * (F.size : Int) by omega)
      exact ⟨((p : Int) % (8 * (F.size : Int))).toNat, by omega, by omega⟩
    rw [hq]
    clear hq
    go_loopw [22] (fun i wr => ∃ (j : Nat) (L : List UInt8), i = .int .i64 j ∧ j ≤ 32 ∧ L.length = F.size ∧ S < wr.heap.size ∧ ((∀ x, x < 8 * F.size → (x < q ∨ q + 32 ≤ x) → bitAt L x = bitAt (frameL k s.data.toList) x) ∧
        (∀ x, x < F.size → wr.cell? ⟨S, x, none⟩ = some (.int .u8 ((L.getD x 0).toNat : Int))) ∧ (∀ x, x < F.size → wr.frozen? ⟨S, x, none⟩ = false) ∧ Below w.heap.size w wr)) (fun i _ => (32 - intOf i).toNat)
    case atStart => exact ⟨0, F.data.toList, rfl, by omega, by simp, by omega, fun x _ _ => by rw [HFL.out], HC0.out, HF0.out, b12⟩
    case round =>
      clear b12 HC0 HF0 hz0
      obtain ⟨j, L, rfl, hj, hL, hSw, hX⟩ := hrel
      have HX := Lib.hid hX
      have HLL := Lib.hid hL
      clear hX hL
      by_cases hlt : j < 32 ∧ q + j < 8 * F.size
      · obtain ⟨hj32, hqj⟩ := hlt
        have hcell := HX.out.2.1 ((q + j) / 8) (by omega)
        have hfree := HX.out.2.2.1 ((q + j) / 8) (by omega)
        obtain ⟨c, hc⟩ : ∃ c, L.getD ((q + j) / 8) 0 = c := ⟨_, rfl⟩
        rw [hc] at hcell
        have HC := Lib.hid hc
        have hc8 := c.toNat_lt
        clear hc
        by_cases hbit : (bits .and .u32 (turn / 2 ^ j) 1 == 1) = true
        · obtain ⟨d, hd1, hd2⟩ := flip_bit c ((q + j) % 8) (by omega)
          have HD1 := Lib.hid hd1
          have HD2 := Lib.hid hd2
          have hset : Hid ((∀ x, x < 8 * F.size → (x < q ∨ q + 32 ≤ x) → bitAt (L.set ((q + j) / 8) d) x = bitAt (frameL k s.data.toList) x) ∧
              (∀ x, x < F.size → ((wr.setCell ⟨S, (q + j) / 8, none⟩ (.int .u8 (d.toNat : Int))).drew).cell? ⟨S, x, none⟩ = some (.int .u8 (((L.set ((q + j) / 8) d).getD x 0).toNat : Int))) ∧
              (∀ x, x < F.size → ((wr.setCell ⟨S, (q + j) / 8, none⟩ (.int .u8 (d.toNat : Int))).drew).frozen? ⟨S, x, none⟩ = false) ∧ Below w.heap.size w ((wr.setCell ⟨S, (q + j) / 8, none⟩ (.int .u8 (d.toNat : Int))).drew)) := by
            refine ⟨fun x hx1 hx2 => ?_, fun x hx => ?_, fun x hx => ?_, (HX.out.2.2.2.setCell (by exact hS) _).drew⟩
            · rw [bitAt_set L _ d c x (q + j) rfl HC.out (by have := HLL.out; omega) HD2.out (by omega)]
              exact HX.out.1 x hx1 hx2
            · by_cases hxe : x = (q + j) / 8
              · subst hxe
                have e : (L.set ((q + j) / 8) d).getD ((q + j) / 8) 0 = d := by
                  have := HLL.out
                  simp [List.getD, show (q + j) / 8 < L.length by omega]
                rw [e]
                exact cell_same hcell
              · have e : (L.set ((q + j) / 8) d).getD x 0 = L.getD x 0 := by simp [List.getD, Ne.symm hxe]
                rw [e]
                exact (cell_off (Ne.symm hxe)).trans (HX.out.2.1 x hx)
            · exact free_set.trans (HX.out.2.2.1 x hx)
          clear hd1 hd2
          go_wp2_with fail
          go_region
          go_wp2_with fail
          rw [HD1.out]
          go_roundw
          case rel => exact ⟨j + 1, L.set ((q + j) / 8) d, by go_num, by omega, by rw [List.length_set]; exact HLL.out, by simpa using hSw, hset.out⟩
          case measure => simp [intOf]; omega
        · have hbit' : (bits .and .u32 (turn / 2 ^ j) 1 == 1) = false := by simpa using hbit
          clear hbit
          go_wp2_with fail
          go_roundw
          case rel => exact ⟨j + 1, L, by go_num, by omega, HLL.out, hSw, HX.out⟩
          case measure => simp [intOf]; omega
      · have hcv := cells_list wr S cap L F.size HLL.out.symm HX.out.2.1
        obtain ⟨T, hT⟩ : ∃ T, bstr L = T := ⟨_, rfl⟩
        have hTl : T.data.toList = L := by rw [← hT, bstr_list]
        have hTs : T.size = F.size := by
          have h1 := congrArg List.length hTl
          have h2 := HLL.out
          simp at h1
          omega
        rw [hT] at hcv
        have HTL := Lib.hid hTl
        have hT9 : T.size ≤ 308 := by omega
        have hb13 := Lib.hid HX.out.2.2.2
        have hcvd : ∀ v, (convert 113 9 (.slice (some ⟨S, 0, none⟩) F.size cap)).run Try.prog v = .ok (.string T) v → True := fun _ _ => trivial
        clear hT hTl hTs hcvd
        go_wp2_with fail
        all_goals
          refine (open_any k T (by omega) _).mono ?_
          rintro e w12 ⟨rfl, b14⟩
          have b15 : Below w.heap.size w w12 := hb13.out.trans (b14.mono hb13.out.size)
          rw [HTL.out]
          have hcw := cells_list w12.drew S cap L F.size HLL.out.symm (fun x hx => (b14.cell (p := ⟨S, x, none⟩) hSw).trans (HX.out.2.1 x hx))
          have hTL2 : bstr L = T := by rw [← HTL.out, bstr_of]
          rw [hTL2] at hcw
          have B15 := Lib.hid b15
          clear hcv b14 b15 hTL2
          by_cases hLf : L = frameL k s.data.toList
          · have e1 : (T.toList == F.toList) = true := by rw [Lib.toList_data, Lib.toList_data, HTL.out, HFL.out, hLf]; simp
            rw [hLf, openL_frame, errV_zero]
            have HLf := Lib.hid hLf
            clear hLf
            go_wp2_with fail
            go_region
            go_wp2_with fail
            go_ret
            exact tb rfl B15.out.drew
          · have hne : (openL k L).2 ≠ 0 := fun e => hLf (burst_frame k s.data.toList L q (by rw [HLL.out, ← HFL.out]; simp) e (fun x hx1 hx2 => HX.out.1 x (by rw [HLL.out] at hx1; exact hx1) hx2))
            have e1 : (T.toList == F.toList) = false := by rw [Lib.toList_data, Lib.toList_data, HTL.out, HFL.out]; simpa using hLf
            obtain ⟨r1, hr1⟩ : ∃ r1, openL k L = r1 := ⟨_, rfl⟩
            rw [hr1] at hne ⊢
            obtain ⟨o1, o2⟩ := r1
            rw [errV_pos o2 hne]
            clear hLf hne hr1
            go_wp2_with fail
            go_region
            go_wp2_with fail
            go_ret
            exact tb rfl B15.out.drew
end Go.Proofs.Ytlfljlhppigejaa
