/-
  The walk of the statement WireSays.
-/
import Derived.Test.YtlfljlhppigejaaWireOpen
namespace Go.Proofs.Ytlfljlhppigejaa
open Go.RowKit

theorem byte_of (a : Int) (h : (Lit.int .u8 a).wf = true) : ∃ k : UInt8, (k.toNat : Int) = a := by
  simp [Lit.wf, IntKind.min, IntKind.max, IntKind.signed, IntKind.bits] at h
  exact ⟨UInt8.ofNat a.toNat, by rw [ofNat_toNat8 _ (by omega)]; omega⟩
theorem int_of (a : Int) (h : (Lit.int .i64 a).wf = true) : -9223372036854775808 ≤ a ∧ a < 9223372036854775808 := by
  simp [Lit.wf, IntKind.min, IntKind.max, IntKind.signed, IntKind.bits] at h
  omega

set_option maxRecDepth 100000 in
theorem writes_any (w : World) : Calls Try.prog 29 #[] w (TrueBelow w) := by
  go_enter Try.func29, Try.ntmps29
  go_wp2_with fail
  refine (num_any 300 (by decide) _).mono ?_
  rintro e w1 ⟨rfl, hb⟩
  rw [show numL 300 = [172, 2] from by decide]
  have e1 : (bstr [172, 2]).toList = [172, 2] := by rw [Lib.toList_data, bstr_list]
  go_wp2_with fail
  refine (same_nil 0 _).mono ?_
  rintro e w2 ⟨rfl, rfl⟩
  go_wp2_with fail
  go_ret
  exact tb rfl hb

set_option maxHeartbeats 3200000 in
set_option maxRecDepth 100000 in
theorem wire_law (n : Int) (hn : -9223372036854775808 ≤ n ∧ n < 9223372036854775808) (s : ByteArray) (hs : s.size ≤ maxLen) (k : UInt8) (w : World) :
    Calls Try.prog 5 #[.int .i64 n, .string s, .int .u8 (k.toNat : Int)] w (TrueBelow w) := by
  unfold maxLen at hs
  by_cases hbig : 600 < s.size
  · go_enter Try.func5, Try.ntmps5
    go_wp2_with fail
    refine (writes_any _).mono ?_
    rintro e w1 ⟨rfl, b1⟩
    go_wp2_with fail
    go_ret
    exact tb rfl b1
  · by_cases hneg : n < 0
    · go_enter Try.func5, Try.ntmps5
      go_wp2_with fail
      refine (writes_any _).mono ?_
      rintro e w1 ⟨rfl, b1⟩
      go_wp2_with fail
      refine (num_neg n hneg _).mono ?_
      rintro e w2 ⟨rfl, b2⟩
      have bb := b1.trans (b2.mono b1.size)
      clear b1 b2
      go_wp2_with fail
      refine (same_err 1 1 (by decide) _).mono ?_
      rintro e w3 ⟨rfl, rfl⟩
      go_wp2_with fail
      refine (take_any s (by omega) _).mono ?_
      rintro e w4 ⟨rfl, b4⟩
      have b5 := bb.trans (b4.mono bb.size)
      clear bb b4
      go_wp2_with fail
      refine (reftake_any s (by omega) _).mono ?_
      rintro e w5 ⟨rfl, b6⟩
      have b7 := b5.trans (b6.mono b5.size)
      clear b5 b6
      generalize takeL s.data.toList = r
      obtain ⟨x, rest, f⟩ := r
      generalize bstr rest = R
      go_wp2_with fail
      refine (same_any f f _).mono ?_
      rintro e w6 ⟨rfl, rfl⟩
      go_wp2_with fail
      refine (sum_any s (by omega) _).mono ?_
      rintro e w6 ⟨rfl, rfl⟩
      go_wp2_with fail
      refine (refsum_any s (by omega) _).mono ?_
      rintro e w6 ⟨rfl, rfl⟩
      go_wp2_with fail
      refine (frame_any k s (by omega) _).mono ?_
      rintro e w8 ⟨rfl, b8⟩
      have b9 := b7.trans (b8.mono b7.size)
      clear b7 b8
      obtain ⟨F, hF⟩ : ∃ F, bstr (frameL k s.data.toList) = F := ⟨_, rfl⟩
      have HF := Lib.hid hF
      rw [hF]
      clear hF
      go_wp2_with fail
      refine (framed_any k s (by omega) _).mono ?_
      rintro e w10 ⟨rfl, b10⟩
      rw [HF.out]
      have b11 := b9.trans (b10.mono b9.size)
      clear b9 b10
      go_wp2_with fail
      refine (open_any k s (by omega) _).mono ?_
      rintro e w12 ⟨rfl, b12⟩
      have b13 := b11.trans (b12.mono b11.size)
      clear b11 b12
      go_wp2_with fail
      refine (opened_any k s (by omega) _).mono ?_
      rintro e w14 ⟨rfl, b14⟩
      have b15 := b13.trans (b14.mono b13.size)
      clear b13 b14
      generalize openL k s.data.toList = r2
      obtain ⟨c, g⟩ := r2
      generalize bstr c = C
      go_wp2_with fail
      refine (framed_any k s (by omega) _).mono ?_
      rintro e w16 ⟨rfl, b16⟩
      have b17 := b15.trans (b16.mono b15.size)
      clear b15 b16
      rw [HF.out]
      have hFl : F.data.toList = frameL k s.data.toList := by rw [← HF.out, bstr_list]
      have hFs : F.size ≤ 900000 := by
        have h1 := congrArg List.length hFl
        rw [frameL_length] at h1
        simp at h1
        omega
      have HFL := Lib.hid hFl
      clear hFl
      go_wp2_with fail
      refine (open_any k F hFs _).mono ?_
      rintro e w18 ⟨rfl, b18⟩
      have b19 := b17.trans (b18.mono b17.size)
      clear b17 b18
      rw [HFL.out, openL_frame, bstr_of, errV_zero]
      go_wp2_with fail
      refine (same_any g g _).mono ?_
      rintro e w20 ⟨rfl, rfl⟩
      go_wp2_with fail
      refine (same_nil 0 _).mono ?_
      rintro e w20 ⟨rfl, rfl⟩
      go_wp2_with fail
      go_ret
      exact tb rfl b19
    · obtain ⟨m, rfl⟩ := Int.eq_ofNat_of_zero_le (show 0 ≤ n by omega)
      go_enter Try.func5, Try.ntmps5
      go_wp2_with fail
      refine (writes_any _).mono ?_
      rintro e w1 ⟨rfl, b1⟩
      go_wp2_with fail
      refine (num_any m (by omega) _).mono ?_
      rintro e w2 ⟨rfl, b2⟩
      have bb2 := b1.trans (b2.mono b1.size)
      clear b1 b2
      obtain ⟨N, hN⟩ : ∃ N, bstr (numL m) = N := ⟨_, rfl⟩
      rw [hN]
      have HN := Lib.hid hN
      clear hN
      go_wp2_with fail
      refine (same_nil 0 _).mono ?_
      rintro e w3 ⟨rfl, rfl⟩
      go_wp2_with fail
      refine (refnum_any m (by omega) _).mono ?_
      rintro e w3 ⟨rfl, b3⟩
      rw [HN.out]
      have bb := bb2.trans (b3.mono bb2.size)
      clear bb2 b3
      go_wp2_with fail
      refine (take_any s (by omega) _).mono ?_
      rintro e w4 ⟨rfl, b4⟩
      have b5 := bb.trans (b4.mono bb.size)
      clear bb b4
      go_wp2_with fail
      refine (reftake_any s (by omega) _).mono ?_
      rintro e w5 ⟨rfl, b6⟩
      have b7 := b5.trans (b6.mono b5.size)
      clear b5 b6
      generalize takeL s.data.toList = r
      obtain ⟨x, rest, f⟩ := r
      generalize bstr rest = R
      go_wp2_with fail
      refine (same_any f f _).mono ?_
      rintro e w6 ⟨rfl, rfl⟩
      go_wp2_with fail
      refine (sum_any s (by omega) _).mono ?_
      rintro e w6 ⟨rfl, rfl⟩
      go_wp2_with fail
      refine (refsum_any s (by omega) _).mono ?_
      rintro e w6 ⟨rfl, rfl⟩
      go_wp2_with fail
      refine (frame_any k s (by omega) _).mono ?_
      rintro e w8 ⟨rfl, b8⟩
      have b9 := b7.trans (b8.mono b7.size)
      clear b7 b8
      obtain ⟨F, hF⟩ : ∃ F, bstr (frameL k s.data.toList) = F := ⟨_, rfl⟩
      have HF := Lib.hid hF
      rw [hF]
      clear hF
      go_wp2_with fail
      refine (framed_any k s (by omega) _).mono ?_
      rintro e w10 ⟨rfl, b10⟩
      rw [HF.out]
      have b11 := b9.trans (b10.mono b9.size)
      clear b9 b10
      go_wp2_with fail
      refine (open_any k s (by omega) _).mono ?_
      rintro e w12 ⟨rfl, b12⟩
      have b13 := b11.trans (b12.mono b11.size)
      clear b11 b12
      go_wp2_with fail
      refine (opened_any k s (by omega) _).mono ?_
      rintro e w14 ⟨rfl, b14⟩
      have b15 := b13.trans (b14.mono b13.size)
      clear b13 b14
      generalize openL k s.data.toList = r2
      obtain ⟨c, g⟩ := r2
      generalize bstr c = C
      go_wp2_with fail
      refine (framed_any k s (by omega) _).mono ?_
      rintro e w16 ⟨rfl, b16⟩
      have b17 := b15.trans (b16.mono b15.size)
      clear b15 b16
      rw [HF.out]
      have hFl : F.data.toList = frameL k s.data.toList := by rw [← HF.out, bstr_list]
      have hFs : F.size ≤ 900000 := by
        have h1 := congrArg List.length hFl
        rw [frameL_length] at h1
        simp at h1
        omega
      have HFL := Lib.hid hFl
      clear hFl
      go_wp2_with fail
      refine (open_any k F hFs _).mono ?_
      rintro e w18 ⟨rfl, b18⟩
      have b19 := b17.trans (b18.mono b17.size)
      clear b17 b18
      rw [HFL.out, openL_frame, bstr_of, errV_zero]
      go_wp2_with fail
      refine (same_any g g _).mono ?_
      rintro e w20 ⟨rfl, rfl⟩
      go_wp2_with fail
      refine (same_nil 0 _).mono ?_
      rintro e w20 ⟨rfl, rfl⟩
      go_wp2_with fail
      go_ret
      exact tb rfl b19
end Go.Proofs.Ytlfljlhppigejaa
