/-
  The walks of chapter 1: the document's numbers; frames.
-/
import Derived.Test.YtlfljlhppigejaaWireNums
namespace Go.Proofs.Ytlfljlhppigejaa
open Go.RowKit

set_option maxHeartbeats 800000 in
set_option maxRecDepth 100000 in
theorem refnum_any (n : Nat) (hn : n < 9223372036854775808) (w : World) : Calls Try.prog 32 #[.int .i64 n] w fun e w' => e = .returned (.string (bstr (numL n))) ∧ Below w.heap.size w w' := by
  obtain ⟨i0, hi, hz0, hz1, hz2⟩ := info_parts Try.infoU8
  go_enter Try.func32, Try.ntmps32
  go_wp2
  go_loopw [0, 3] (fun m v wr => ∃ (M f : Nat) (xs : List UInt8), m = .int .i64 M ∧ M < 9223372036854775808 ∧ xs.length + f = 9 ∧ (M < 128 ^ f ∧ xs ++ numF f M = numL n ∧ Below w.heap.size w wr ∧
      wr.ownsRow w.heap.size 5 1 v xs.length (xs.map fun c => Value.int .u8 (c.toNat : Int)))) (fun m _ _ => (intOf m).toNat)
  case atStart => exact ⟨n, 9, [], rfl, hn, rfl, by simpa using hn, rfl, Below.refl _ _, World.ownsRow_nil _ _ _ _⟩
  case round =>
    obtain ⟨M, f, xs, rfl, hM, hf, hX⟩ := hrel
    have HX := Lib.hid hX
    have hbs := hX.2.2.1.size
    clear hX
    by_cases hbig : 127 < M
    · have f1 := and127 M hM
      have f2 := or128 M
      go_wp2_with (at_builtin; refine wpList_append_own _ rfl _ _ 113 rfl w.heap.size 5 i0 (.int .u8 0) 1 1 Try.underlying113 hi hz0 hz1 hz2 rfl (by decide) _ _ _ rfl (HX.out.2.2.2.alloc _) ⟨wr.heap.size, 0, none⟩ 1 1 [.int .u8 (128 + ↑M % 128)] rfl rfl ?c1 ?c2 ?c3 ?c4 ?c5 ?_)
      case c1 =>
        intro j u hj
        match j, hj with
        | 0, hj => simp at hj; subst hj; simp [Addr.add]
      case c2 => intro u hu; simp at hu; subst hu; rfl
      case c3 => unfold maxLen; omega
      case c4 => omega
      case c5 => simp; omega
      intro v' w1 hown' hgrow _
      have HO := Lib.hid hown'
      have HG := Lib.hid hgrow
      clear hown' hgrow
      obtain ⟨g, rfl⟩ : ∃ g, f = g + 1 := ⟨f - 1, by
        rcases Nat.eq_zero_or_pos f with e | e
        · rw [e] at HX; have := HX.out.1; simp at this; omega
        · omega⟩
      have HN : Hid (xs ++ [UInt8.ofNat (M % 128 + 128)] ++ numF g (M / 128) = numL n ∧ M / 128 < 128 ^ g) := by
        refine ⟨?_, ?_⟩
        · rw [← HX.out.2.1, numF, if_neg (by omega)]; simp
        · have h1 := HX.out.1
          rw [Nat.pow_succ] at h1
          omega
      have HV : Hid (w1.ownsRow w.heap.size 5 1 v' (xs ++ [UInt8.ofNat (M % 128 + 128)]).length ((xs ++ [UInt8.ofNat (M % 128 + 128)]).map fun c => Value.int .u8 (c.toNat : Int))) := by
        have h1 := HO.out
        have h2 : ((UInt8.ofNat (M % 128 + 128)).toNat : Int) = 128 + (M : Int) % 128 := by rw [ofNat_toNat8 _ (by omega)]; omega
        show w1.ownsRow _ _ _ _ _ _
        rw [List.map_append, List.length_append, List.map_cons, h2]
        exact h1
      have HW : Hid (Below w.heap.size w w1) := (HX.out.2.2.1.alloc hbs _).grown HG.out (by simp; omega) (ownBlock_base HX.out.2.2.2)
      clear HO HG
      go_wp2_with fail
      go_roundw
      case rel => exact ⟨M / 128, g, _, intv (by omega), by omega, by simp; omega, HN.out.2, HN.out.1, HW.out, HV.out⟩
      case measure => simp [intOf]; omega
    · go_wp2_with (at_builtin; refine wpList_append_own _ rfl _ _ 113 rfl w.heap.size 5 i0 (.int .u8 0) 1 1 Try.underlying113 hi hz0 hz1 hz2 rfl (by decide) _ _ _ rfl (HX.out.2.2.2.alloc _) ⟨wr.heap.size, 0, none⟩ 1 1 [.int .u8 ↑M] rfl rfl ?d1 ?d2 ?d3 ?d4 ?d5 ?_)
      case d1 =>
        intro j u hj
        match j, hj with
        | 0, hj => simp at hj; subst hj; simp [Addr.add]
      case d2 => intro u hu; simp at hu; subst hu; rfl
      case d3 => unfold maxLen; omega
      case d4 => omega
      case d5 => simp; omega
      intro v' w1 hown' hgrow _
      have HW : Hid (Below w.heap.size w w1) := (HX.out.2.2.1.alloc hbs _).grown hgrow (by simp; omega) (ownBlock_base HX.out.2.2.2)
      have hnm : xs ++ [UInt8.ofNat M] = numL n := by
        rw [← HX.out.2.1]
        cases f with
        | zero => rw [numF]
        | succ g => rw [numF, if_pos (by omega)]
      have h2 : ((UInt8.ofNat M).toNat : Int) = (M : Int) := by rw [ofNat_toNat8 _ (by omega)]
      have hcv : (convert 113 9 v').run Try.prog w1 = .ok (.string (bstr (numL n))) w1 := by
        rw [← hnm]
        refine convert_own (n := xs.length + 1) (base := w.heap.size) Try.underlying113 Try.underlying5 Try.underlying9 ?_ (by simp)
        rw [List.map_append, List.map_cons, h2]
        exact hown'
      clear hown' hgrow h2 hnm
      go_wp2_with fail
      go_ret
      exact ⟨rfl, HW.out⟩

/-- 'string(b)' of a row of bytes that has just been made. -/
theorem convert_new (w : World) (S : Nat) (hS : S = w.heap.size) (l : List UInt8) (cs : Array Value) (n : Nat) (hn : n = l.length) (hc : cs.toList = l.map fun c => Value.int .u8 (c.toNat : Int)) :
    (convert 113 9 (.slice (some ⟨S, 0, none⟩) n n)).run Try.prog (w.alloc (.cells cs 5)) = .ok (.string (bstr l)) (w.alloc (.cells cs 5)) := by
  subst hn hS
  refine run_convert_bytes_back _ _ _ 5 ⟨w.heap.size, 0, none⟩ l.length l Try.underlying113 Try.underlying5 Try.underlying9 (fun j hj => ?_)
  have h3 : (⟨w.heap.size, 0, none⟩ : Addr).add j = ⟨w.heap.size, j, none⟩ := by
    unfold Addr.add
    split
    · rename_i h; subst h; rfl
    · simp
  rw [h3, World.cell?_alloc_new]
  have h4 : cs.toList[j]? = some (.int .u8 (l[j].toNat : Int)) := by rw [hc]; simp [hj]
  simpa using h4
theorem list_append (a b : ByteArray) : (a ++ b).data.toList = a.data.toList ++ b.data.toList := by simp [ByteArray.data_append]

set_option maxHeartbeats 800000 in
set_option maxRecDepth 100000 in
theorem frame_any (k : UInt8) (s : ByteArray) (hs : s.size ≤ 1000000) (w : World) : Calls Try.prog 37 #[.int .u8 (k.toNat : Int), .string s] w fun e w' => e = .returned (.string (bstr (frameL k s.data.toList))) ∧ Below w.heap.size w w' := by
  have c1 := convert_new w _ rfl [k] #[.int .u8 (k.toNat : Int)] 1 rfl rfl
  have z1 : (bstr [k]).size = 1 := bstr_size _
  obtain ⟨H, hH⟩ : ∃ H : ByteArray, { data := #[70, 89, 49] } ++ bstr [k] ++ s = H := ⟨_, rfl⟩
  have hHl : H.data.toList = headL k s.data.toList := by rw [← hH, list_append, list_append, bstr_list]; rfl
  have hHs : H.size = s.size + 4 := by
    have h1 : H.data.toList.length = s.data.toList.length + 4 := by rw [hHl]; simp [headL]
    simpa using h1
  have HL := Lib.hid hHl
  clear hHl
  go_enter Try.func37, Try.ntmps37
  go_wp2_with fail
  refine (sum_any H (by omega) _).mono ?_
  rintro e w1 ⟨rfl, rfl⟩
  clear c1 z1
  obtain ⟨x, hx⟩ : ∃ x, crcL H.data.toList = x := ⟨_, rfl⟩
  rw [hx]
  have HX := Lib.hid (show crcL (headL k s.data.toList) = x by rw [← HL.out]; exact hx)
  clear hx
  have hxl := x.isLt
  obtain ⟨z, hz⟩ : ∃ z, x.toNat = z := ⟨_, rfl⟩
  rw [hz] at hxl ⊢
  have HZ := Lib.hid hz
  clear hz
  have c2 := convert_new (w.alloc (.cells #[.int .u8 (k.toNat : Int)] 5)) (w.heap.size + 1) (by simp) (le4 x) #[.int .u8 ((z : Int) % 256), .int .u8 ((z : Int) / 256 % 256), .int .u8 ((z : Int) / 65536 % 256), .int .u8 ((z : Int) / 16777216)] 4 rfl (by
    have h1 := HZ.out
    simp only [le4, h1, List.map_cons, List.map_nil]
    rw [ofNat_toNat8 _ (by omega), ofNat_toNat8 _ (by omega), ofNat_toNat8 _ (by omega), ofNat_toNat8 _ (by omega), show z / 16777216 % 256 = z / 16777216 from by omega]
    rfl)
  have z2 : (bstr (le4 x)).size = 4 := bstr_size _
  have hfin : Hid (H ++ bstr (le4 x) = bstr (frameL k s.data.toList)) := by
    show _ = _
    rw [← bstr_of (H ++ bstr (le4 x)), list_append, bstr_list, HL.out]
    unfold frameL
    rw [HX.out]
  go_wp2_with fail
  go_ret
  exact ⟨ret1 (strv hfin.out), ((Below.refl _ _).alloc (Nat.le_refl _) _).alloc (by simp) _⟩
end Go.Proofs.Ytlfljlhppigejaa
