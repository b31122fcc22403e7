/-
  The walks of chapter 1: the document's frames; frames that are opened; errors held against numbers.
-/
import Derived.Test.YtlfljlhppigejaaWireFrames
import Derived.Laws.DeepStrings4
import Derived.RegionTactic
namespace Go.Proofs.Ytlfljlhppigejaa
open Go.RowKit

set_option maxHeartbeats 1600000 in
set_option maxRecDepth 100000 in
theorem framed_any (k : UInt8) (s : ByteArray) (hs : s.size ≤ 900000) (w : World) : Calls Try.prog 38 #[.int .u8 (k.toNat : Int), .string s] w fun e w' => e = .returned (.string (bstr (frameL k s.data.toList))) ∧ Below w.heap.size w w' := by
  have c1 := convert_new w _ rfl [k] #[.int .u8 (k.toNat : Int)] 1 rfl rfl
  have z1 : (bstr [k]).size = 1 := bstr_size _
  obtain ⟨H, hH⟩ : ∃ H : ByteArray, { data := #[70, 89, 49] } ++ bstr [k] ++ s = H := ⟨_, rfl⟩
  have hHl : H.data.toList = headL k s.data.toList := by rw [← hH, list_append, list_append, bstr_list]; rfl
  have hHs : H.size = s.size + 4 := by
    have h1 : H.data.toList.length = s.data.toList.length + 4 := by rw [hHl]; simp [headL]
    simpa using h1
  have HL := Lib.hid hHl
  clear hHl
  go_enter Try.func38, Try.ntmps38
  go_wp2_with fail
  refine (refsum_any H (by omega) _).mono ?_
  rintro e w1 ⟨rfl, rfl⟩
  clear c1 z1
  obtain ⟨x, hx⟩ : ∃ x, crcL H.data.toList = x := ⟨_, rfl⟩
  rw [hx]
  have HX := Lib.hid (show crcL (headL k s.data.toList) = x by rw [← HL.out]; exact hx)
  clear hx
  have hxl := x.isLt
  obtain ⟨z, hz⟩ : ∃ z, x.toNat = z := ⟨_, rfl⟩
  rw [hz] at hxl ⊢
  have HZ := Lib.hid hz
  clear hz
  have hb0 : Below w.heap.size w (w.alloc (.cells #[.int .u8 (k.toNat : Int)] 5)) := (Below.refl _ _).alloc (Nat.le_refl _) _
  go_wp2_with fail
  go_loopw [5, 6, 7] (fun a b c wr => ∃ (j X : Nat) (S : ByteArray), a = .string S ∧ b = .int .u32 X ∧ c = .int .i64 j ∧ j ≤ 4 ∧ X < 4294967296 ∧ S.size = s.size + 4 + j ∧ (X = z / 256 ^ j ∧ S.data.toList = headL k s.data.toList ++ (le4 x).take j ∧ Below w.heap.size w wr))
    (fun _ _ c _ => (4 - intOf c).toNat)
  case atStart => exact ⟨0, z, H, rfl, rfl, rfl, by omega, by omega, by omega, by simp, by rw [HL.out]; simp, hb0⟩
  case round =>
    clear hb0
    obtain ⟨j, X, S, rfl, rfl, rfl, hj, hX, hS, hr⟩ := hrel
    have HR := Lib.hid hr
    have hbs := hr.2.2.size
    have HS := Lib.hid hS
    have hSs : S.size ≤ 1000000 := by omega
    clear hr hS
    by_cases hlt : j < 4
    · have c1 := convert_new wr _ rfl [UInt8.ofNat (X % 256)] #[.int .u8 ((X : Int) % 256)] 1 rfl (by
        simp only [List.map_cons, List.map_nil]
        rw [ofNat_toNat8 _ (by omega)]
        rfl)
      have z1 : (bstr [UInt8.ofNat (X % 256)]).size = 1 := bstr_size _
      have hnx : Hid (X / 256 = z / 256 ^ (j + 1) ∧ (S ++ bstr [UInt8.ofNat (X % 256)]).data.toList = headL k s.data.toList ++ (le4 x).take (j + 1)) := by
        refine ⟨?_, ?_⟩
        · rw [HR.out.1, Nat.div_div_eq_div_mul, Nat.pow_succ]
        · rw [list_append, bstr_list, HR.out.2.1, List.append_assoc]
          congr 1
          have hz := HZ.out
          have hX := HR.out.1
          have hj4 : j = 0 ∨ j = 1 ∨ j = 2 ∨ j = 3 := by omega
          rcases hj4 with rfl | rfl | rfl | rfl <;> simp [le4, hz, hX]
      go_wp2_with fail
      go_roundw
      case rel => exact ⟨j + 1, X / 256, _, rfl, intv (by omega), by go_num, by omega, by omega, by rw [ByteArray.size_append, bstr_size]; have := HS.out; simp; omega, hnx.out.1, hnx.out.2, HR.out.2.2.alloc hbs _⟩
      case measure => simp [intOf]; omega
    · obtain rfl : j = 4 := by omega
      have hfin : Hid (S = bstr (frameL k s.data.toList)) := by
        show _ = _
        rw [← bstr_of S, HR.out.2.1]
        unfold frameL
        rw [HX.out]
        rfl
      go_wp2_with fail
      go_ret
      exact ⟨ret1 (strv hfin.out), HR.out.2.2⟩

theorem same_nil (f : Int) (w : World) : Calls Try.prog 31 #[.nilIface, .int .i64 f] w fun e w' => e = .returned (.bool (f == 0)) ∧ w = w' := by
  go_enter Try.func31, Try.ntmps31
  go_wp2_with fail
  go_ret
  exact ⟨rfl, rfl⟩
theorem assert_errno (n : Int) (w : World) : (Instr.typeAssert (.iface 148 (.int .i64 n)) 46 148 true).run Try.prog w = .ok (.tuple #[.int .i64 n, .bool true]) w := by kernel_rfl
set_option maxRecDepth 100000 in
theorem same_err (n f : Int) (hn : 0 < n) (w : World) : Calls Try.prog 31 #[.iface 148 (.int .i64 n), .int .i64 f] w fun e w' => e = .returned (.bool (n == f)) ∧ w = w' := by
  have ha := assert_errno n w
  go_enter Try.func31, Try.ntmps31
  go_wp2_with fail
  all_goals (go_ret; exact ⟨ret1 (boolv (by first | rfl | (simp; omega))), rfl⟩)
/-- An error held against its own number. -/
theorem same_any (n f : Nat) (w : World) : Calls Try.prog 31 #[errV n, .int .i64 f] w fun e w' => e = .returned (.bool (n == f)) ∧ w = w' := by
  by_cases h : n = 0
  · subst h
    rw [errV_zero]
    refine (same_nil f w).mono ?_
    rintro e w' ⟨rfl, rfl⟩
    exact ⟨ret1 (boolv (by rw [Bool.eq_iff_iff]; simp; omega)), rfl⟩
  · rw [errV_pos n h]
    refine (same_err n f (by omega) w).mono ?_
    rintro e w' ⟨rfl, rfl⟩
    exact ⟨ret1 (boolv (by rw [Bool.eq_iff_iff]; simp; omega)), rfl⟩

/-- What Open hands back. -/
def OpenEnd (k : UInt8) (l : List UInt8) (w : World) (e : Ending) (w' : World) : Prop :=
  e = .returned (.tuple #[.string (bstr (openL k l).1), errV (openL k l).2]) ∧ Below w.heap.size w w'
theorem OpenEnd.mk {k : UInt8} {l : List UInt8} {w w' : World} {r : List UInt8 × Nat} {a b : Value} (h : openL k l = r) (h1 : a = .string (bstr r.1)) (h2 : b = errV r.2) (hb : Below w.heap.size w w') :
    OpenEnd k l w (.returned (.tuple #[a, b])) w' := by
  unfold OpenEnd
  rw [h, h1, h2]
  exact ⟨rfl, hb⟩
def RefOpenEnd (k : UInt8) (l : List UInt8) (w : World) (e : Ending) (w' : World) : Prop :=
  e = .returned (.tuple #[.string (bstr (openL k l).1), .int .i64 ((openL k l).2 : Nat)]) ∧ Below w.heap.size w w'
theorem RefOpenEnd.mk {k : UInt8} {l : List UInt8} {w w' : World} {r : List UInt8 × Nat} {a b : Value} (h : openL k l = r) (h1 : a = .string (bstr r.1)) (h2 : b = .int .i64 (r.2 : Nat)) (hb : Below w.heap.size w w') :
    RefOpenEnd k l w (.returned (.tuple #[a, b])) w' := by
  unfold RefOpenEnd
  rw [h, h1, h2]
  exact ⟨rfl, hb⟩

theorem head3 (s : ByteArray) (k : UInt8) (h8 : 8 ≤ s.size) : s.data.toList.take 4 = [70, 89, 49, k] ↔ (s.extract 0 3).toList = [70, 89, 49] ∧ s[3] = k := by
  have h1 : (s.extract 0 3).toList = s.data.toList.take 3 := by rw [Lib.toList_data, Lib.extract_data]; simp
  have h2 : s.data.toList.take 4 = s.data.toList.take 3 ++ [s[3]] := take_snoc s 3 (by omega)
  rw [h1, h2]
  constructor
  · intro h
    have h3 : s.data.toList.take 3 ++ [s[3]] = [70, 89, 49] ++ [k] := h
    have h4 := List.append_inj h3 (by simp; omega)
    exact ⟨h4.1, by simpa using h4.2⟩
  · rintro ⟨h3, h4⟩
    rw [h3, h4]
    simp
theorem body_list (s : ByteArray) (_h8 : 8 ≤ s.size) : (s.extract 4 (s.size - 4)).data.toList = (s.data.toList.drop 4).take (s.data.toList.length - 8) := by
  rw [Lib.extract_data]
  congr 1
theorem body_size (s : ByteArray) (h8 : 8 ≤ s.size) : (s.extract 4 (s.size - 4)).size = s.size - 8 := by
  have h := congrArg List.length (body_list s h8)
  simp only [List.length_take, List.length_drop] at h
  have e1 : (s.extract 4 (s.size - 4)).data.toList.length = (s.extract 4 (s.size - 4)).size := by simp only [Array.length_toList, ByteArray.size_data]
  have e2 : s.data.toList.length = s.size := by simp
  omega

set_option maxHeartbeats 800000 in
set_option maxRecDepth 100000 in
theorem open_any (k : UInt8) (s : ByteArray) (hs : s.size ≤ 900000) (w : World) : Calls Try.prog 39 #[.int .u8 (k.toNat : Int), .string s] w (OpenEnd k s.data.toList w) := by
  by_cases h8 : s.size < 8
  · have hr : Hid (openL k s.data.toList = ([], 4)) := by show _ = _; unfold openL; rw [if_pos (by simpa using h8)]
    go_enter Try.func39, Try.ntmps39
    go_wp2_with fail
    go_ret2
    exact OpenEnd.mk hr.out rfl rfl (Below.refl _ _)
  · have hh := head3 s k (by omega)
    by_cases ht : s.data.toList.take 4 = [70, 89, 49, k]
    · obtain ⟨e1, e2⟩ := hh.1 ht
      have e3 : ((s[3].toNat : Int) != (k.toNat : Int)) = false := by rw [e2]; simp
      have hbl := body_list s (by omega)
      have hbs := body_size s (by omega)
      have hr : Hid (openL k s.data.toList = if frameL k (s.extract 4 (s.size - 4)).data.toList ≠ s.data.toList then ([], 5) else ((s.extract 4 (s.size - 4)).data.toList, 0)) := by
        show _ = _
        have hlen : s.data.toList.length = s.size := by simp
        unfold openL
        rw [if_neg (by omega), if_neg (by simp [ht]), hbl]
      obtain ⟨B, hB⟩ : ∃ B, s.extract 4 (s.size - 4) = B := ⟨_, rfl⟩
      rw [hB] at hr hbs
      clear hh ht hbl e2
      by_cases hf : frameL k B.data.toList = s.data.toList
      · have hr2 : Hid (openL k s.data.toList = (B.data.toList, 0)) := by show _ = _; rw [hr.out, if_neg (by simp [hf])]
        have hf2 : Hid (bstr (frameL k B.data.toList) = s) := by show _ = _; rw [hf, bstr_of]
        clear hr hf
        go_enter Try.func39, Try.ntmps39
        go_wp2_with fail
        refine (frame_any k B (by omega) _).mono ?_
        rintro e w1 ⟨rfl, hb⟩
        rw [hf2.out]
        have HB := Lib.hid hB
        clear hB
        go_wp2_with fail
        go_ret2
        exact OpenEnd.mk hr2.out (strv (by rw [bstr_of]; exact HB.out)) rfl hb
      · have hr2 : Hid (openL k s.data.toList = ([], 5)) := by show _ = _; rw [hr.out, if_pos hf]
        have hf2 : ((bstr (frameL k B.data.toList)).toList == s.toList) = false := by
          rw [beq_eq_false_iff_ne, Lib.toList_data, Lib.toList_data, bstr_list]
          exact hf
        clear hr hf
        go_enter Try.func39, Try.ntmps39
        go_wp2_with fail
        refine (frame_any k B (by omega) _).mono ?_
        rintro e w1 ⟨rfl, hb⟩
        generalize bstr (frameL k B.data.toList) = F at *
        have hf3 : (!F.toList == s.toList) = true := by rw [hf2]; rfl
        clear hB
        go_wp2_with fail
        go_ret2
        exact OpenEnd.mk hr2.out rfl rfl hb
    · by_cases e1 : (s.extract 0 3).toList = [70, 89, 49]
      · have e2 : ((s[3].toNat : Int) != (k.toNat : Int)) = true := by
          have : ¬ s[3] = k := fun e => ht (hh.2 ⟨e1, e⟩)
          simp
          intro e
          exact this (UInt8.toNat_inj.1 (by omega))
        have hr2 : Hid (openL k s.data.toList = ([], 6)) := by
          have hlen : s.data.toList.length = s.size := by simp
          show _ = _
          unfold openL
          rw [if_neg (by omega), if_pos ht]
        clear hh ht
        go_enter Try.func39, Try.ntmps39
        go_wp2_with fail
        go_ret2
        exact OpenEnd.mk hr2.out rfl rfl (Below.refl _ _)
      · have hr2 : Hid (openL k s.data.toList = ([], 6)) := by
          have hlen : s.data.toList.length = s.size := by simp
          show _ = _
          unfold openL
          rw [if_neg (by omega), if_pos ht]
        clear hh ht
        go_enter Try.func39, Try.ntmps39
        go_wp2_with fail
        go_ret2
        exact OpenEnd.mk hr2.out rfl rfl (Below.refl _ _)

set_option maxHeartbeats 800000 in
set_option maxRecDepth 100000 in
theorem opened_any (k : UInt8) (s : ByteArray) (hs : s.size ≤ 900000) (w : World) : Calls Try.prog 40 #[.int .u8 (k.toNat : Int), .string s] w (RefOpenEnd k s.data.toList w) := by
  by_cases h8 : s.size < 8
  · have hr : Hid (openL k s.data.toList = ([], 4)) := by show _ = _; unfold openL; rw [if_pos (by simpa using h8)]
    go_enter Try.func40, Try.ntmps40
    go_wp2_with fail
    go_ret2
    exact RefOpenEnd.mk hr.out rfl rfl (Below.refl _ _)
  · have c1 : (convert 113 9 (.slice (some ⟨w.heap.size, 0, none⟩) 1 1)).run Try.prog (w.alloc (.cells #[.int .u8 (k.toNat : Int)] 5)).drew = .ok (.string (bstr [k])) (w.alloc (.cells #[.int .u8 (k.toNat : Int)] 5)).drew :=
      convert_new w.drew w.heap.size rfl [k] #[.int .u8 (k.toNat : Int)] 1 rfl rfl
    have z1 : (bstr [k]).size = 1 := bstr_size _
    obtain ⟨H, hH⟩ : ∃ H : ByteArray, { data := #[70, 89, 49] } ++ bstr [k] = H := ⟨_, rfl⟩
    have hHl : H.data.toList = [70, 89, 49, k] := by rw [← hH, list_append, bstr_list]; rfl
    have hx4 : (s.extract 0 4).toList = s.data.toList.take 4 := by rw [Lib.toList_data, Lib.extract_data]; simp
    by_cases ht : s.data.toList.take 4 = [70, 89, 49, k]
    · have e1 : ((s.extract 0 4).toList == H.toList) = true := by rw [hx4, ht, Lib.toList_data, hHl]; simp
      have hbl := body_list s (by omega)
      have hbs := body_size s (by omega)
      have hr : Hid (openL k s.data.toList = if frameL k (s.extract 4 (s.size - 4)).data.toList ≠ s.data.toList then ([], 5) else ((s.extract 4 (s.size - 4)).data.toList, 0)) := by
        show _ = _
        have hlen : s.data.toList.length = s.size := by simp
        unfold openL
        rw [if_neg (by omega), if_neg (by simp [ht]), hbl]
      obtain ⟨B, hB⟩ : ∃ B, s.extract 4 (s.size - 4) = B := ⟨_, rfl⟩
      rw [hB] at hr hbs
      have HH := Lib.hid hHl
      clear ht hbl hHl hx4
      by_cases hf : frameL k B.data.toList = s.data.toList
      · have hr2 : Hid (openL k s.data.toList = (B.data.toList, 0)) := by show _ = _; rw [hr.out, if_neg (by simp [hf])]
        have hf2 : Hid (bstr (frameL k B.data.toList) = s) := by show _ = _; rw [hf, bstr_of]
        clear hr hf
        go_enter Try.func40, Try.ntmps40
        go_wp2_with fail
        go_region
        clear c1 z1 e1 hH
        go_wp2_with fail
        refine (framed_any k B (by omega) _).mono ?_
        rintro e w1 ⟨rfl, hb⟩
        rw [hf2.out]
        have hb2 : Below w.heap.size w w1 := (((Below.refl _ w).alloc (Nat.le_refl _) _).drew).trans (hb.mono (by simp))
        clear hb
        have HB := Lib.hid hB
        clear hB
        go_wp2_with fail
        go_ret2
        exact RefOpenEnd.mk hr2.out (strv (by rw [bstr_of]; exact HB.out)) rfl hb2
      · have hr2 : Hid (openL k s.data.toList = ([], 5)) := by show _ = _; rw [hr.out, if_pos hf]
        have hf2 : ((bstr (frameL k B.data.toList)).toList == s.toList) = false := by
          rw [beq_eq_false_iff_ne, Lib.toList_data, Lib.toList_data, bstr_list]
          exact hf
        clear hr hf
        go_enter Try.func40, Try.ntmps40
        go_wp2_with fail
        go_region
        clear c1 z1 e1 hH
        go_wp2_with fail
        refine (framed_any k B (by omega) _).mono ?_
        rintro e w1 ⟨rfl, hb⟩
        generalize bstr (frameL k B.data.toList) = F at *
        have hf3 : (!F.toList == s.toList) = true := by rw [hf2]; rfl
        have hb2 : Below w.heap.size w w1 := (((Below.refl _ w).alloc (Nat.le_refl _) _).drew).trans (hb.mono (by simp))
        clear hb hB
        go_wp2_with fail
        go_ret2
        exact RefOpenEnd.mk hr2.out rfl rfl hb2
    · have e1 : ((s.extract 0 4).toList == H.toList) = false := by rw [hx4, Lib.toList_data, hHl]; simpa using ht
      have e2 : (!(s.extract 0 4).toList == H.toList) = true := by rw [e1]; rfl
      have hr2 : Hid (openL k s.data.toList = ([], 6)) := by
        have hlen : s.data.toList.length = s.size := by simp
        show _ = _
        unfold openL
        rw [if_neg (by omega), if_pos ht]
      clear hx4 hHl ht
      go_enter Try.func40, Try.ntmps40
      go_wp2_with fail
      go_region
      go_wp2_with fail
      go_ret2
      exact RefOpenEnd.mk hr2.out rfl rfl (((Below.refl _ w).alloc (Nat.le_refl _) _).drew)
end Go.Proofs.Ytlfljlhppigejaa
