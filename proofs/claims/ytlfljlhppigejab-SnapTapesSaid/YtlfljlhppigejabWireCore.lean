/-
  The walks of package wire: Take, Num, Frame, Open.
-/
import Derived.Test.YtlfljlhppigejabWireWalk
import Derived.Test.YtlfljlhppigejabErr
import Derived.Lib.IndexBytes
import Derived.Laws.DeepStrings4
import Derived.RegionTactic
namespace Go.Proofs.Ytlfljlhppigejab
open Go.RowKit


/-- What Take hands back. -/
def TakeEnd (l : List UInt8) (w : World) (e : Ending) (w' : World) : Prop :=
  e = .returned (.tuple #[.int .i64 ((takeL l).1 : Nat), .string (bstr (takeL l).2.1), errV (takeL l).2.2]) ∧ Below w.heap.size w w'
theorem TakeEnd.mk {l : List UInt8} {w w' : World} {r : Nat × List UInt8 × Nat} {a b c : Value} (h : takeL l = r) (h1 : a = .int .i64 (r.1 : Nat)) (h2 : b = .string (bstr r.2.1)) (h3 : c = errV r.2.2) (hb : Below w.heap.size w w') :
    TakeEnd l w (.returned (.tuple #[a, b, c])) w' := by
  unfold TakeEnd
  rw [h, h1, h2, h3]
  exact ⟨rfl, hb⟩

set_option maxHeartbeats 800000 in
theorem take_any (s : ByteArray) (hs : s.size ≤ 4611686018427387904) (w : World) : Calls Try.prog 113 #[.string s] w (TakeEnd s.data.toList w) := by
  go_enter Try.func113, Try.ntmps113
  go_wp2
  go_loop [5, 9] (fun x c => ∃ (k N : Nat), c = .int .i64 k ∧ k ≤ s.size ∧ k ≤ 9 ∧ x = .int .i64 N ∧ (N < 128 ^ k ∧ takeL s.data.toList = takeGo k N (s.data.toList.drop k))) (fun _ c => (s.size - intOf c).toNat)
  case atStart => exact ⟨0, 0, rfl, by omega, by omega, rfl, by decide, rfl⟩
  case round =>
    obtain ⟨k, N, rfl, hk, hk9, rfl, hX⟩ := hrel
    have HX := Lib.hid hX
    clear hX
    have hN : N < 9223372036854775808 := Nat.lt_of_lt_of_le HX.out.1 (pow128_le k hk9)
    by_cases hlt : k < s.size
    · have hdc := drop_cons s k hlt
      obtain ⟨c, hc⟩ : ∃ c, s[k] = c := ⟨_, rfl⟩
      rw [hc] at hdc
      have HD := Lib.hid (HX.out.2.trans (by rw [hdc]))
      clear hdc
      have hc8 := c.toNat_lt
      by_cases h9 : k = 9
      · subst h9
        go_wp2_with fail
        go_ret3
        exact TakeEnd.mk (HD.out.trans (takeGo_nine _ _ _)) rfl rfl rfl (Below.refl _ _)
      · have h9' : ((k : Int) == 9) = false := by simp; omega
        have HH := Lib.hid h9
        clear h9
        have HE := Lib.hid (take_or N k c (by have := HH.out; omega) HX.out.1)
        have hb := take_bound N (c.toNat % 128) k HX.out.1 (by omega)
        have HB := Lib.hid hb
        have hb2 : k + 1 ≤ 9 := by have := HH.out; omega
        clear hb
        by_cases hbig : 127 < c.toNat
        · go_wp2_with fail
          go_round
          case rel => exact ⟨k + 1, _, by go_num, by omega, hb2, intv HE.out, HB.out, HD.out.trans (takeGo_more _ _ _ _ HH.out hbig)⟩
          case measure => simp [intOf]; omega
        · by_cases hz : 0 < k
          · by_cases hz0 : c.toNat = 0
            · go_wp2_with fail
              go_ret3
              exact TakeEnd.mk (HD.out.trans (takeGo_form _ _ _ _ HH.out hz hz0)) rfl rfl rfl (Below.refl _ _)
            · have HZ := Lib.hid hz0
              have hz1 : ((c.toNat : Int) == 0) = false := by simp; omega
              clear hz0
              go_wp2_with fail
              go_quiet (fail)
              go_wp2_with fail
              go_ret3
              exact TakeEnd.mk (HD.out.trans (takeGo_last _ _ _ _ HH.out (by omega) (by have := HZ.out; omega))) (intv HE.out) (strv (extract_drop _ _)) rfl (below_drewN (Below.refl _ _) _)
          · go_wp2_with fail
            go_quiet (fail)
            go_wp2_with fail
            go_ret3
            exact TakeEnd.mk (HD.out.trans (takeGo_last _ _ _ _ HH.out (by omega) (by omega))) (intv HE.out) (strv (extract_drop _ _)) rfl (below_drewN (Below.refl _ _) _)
    · have hdn : s.data.toList.drop k = [] := List.drop_eq_nil_of_le (by simp; omega)
      have HD := Lib.hid (HX.out.2.trans (by rw [hdn, takeGo_nil]))
      clear hdn
      go_wp2_with fail
      go_ret3
      exact TakeEnd.mk HD.out rfl rfl rfl (Below.refl _ _)

/-- What Num hands back. -/
def NumEnd (n : Nat) (w : World) (e : Ending) (w' : World) : Prop := e = .returned (.tuple #[.string (bstr (numL n)), .nilIface]) ∧ Below w.heap.size w w'
theorem num_neg (n : Int) (hn : n < 0) (w : World) : Calls Try.prog 87 #[.int .i64 n] w fun e w' => e = .returned (.tuple #[.string ByteArray.empty, .iface 112 (.int .i64 1)]) ∧ Below w.heap.size w w' := by
  go_enter Try.func87, Try.ntmps87
  go_wp2
  go_ret2
  exact ⟨rfl, Below.refl _ _⟩
theorem Try.infoU8 : (Try.prog.info? 5).map (fun i => (i.zero, i.size, i.bytes)) = some (some (.int .u8 0), 1, 1) := by kernel_rfl

theorem ownBlock_base {w : World} {base : Nat} {e : TypeId} {size n : Nat} {v : Value} {xs : List Value} (h : w.ownsRow base e size v n xs) : ∀ k, v.ownBlock = some k → base ≤ k := by
  rcases h.2 with ⟨rfl, _⟩ | ⟨g, cap, cur, rfl, hg, _⟩
  · intro k hk; cases hk
  · intro k hk; cases hk; exact hg
/-- 'string(b)' of a row that the call owns. -/
theorem convert_own {P : Program} {w : World} {base src dst e : TypeId} {v : Value} {n : Nat} {l : List UInt8} (hs : P.underlying src = some (.slice e)) (he : P.underlying e = some (.int .u8)) (hd : P.underlying dst = some .string)
    (h : w.ownsRow base e 1 v n (l.map fun c => Value.int .u8 (c.toNat : Int))) (hne : l ≠ []) :
    (convert src dst v).run P w = .ok (.string (bstr l)) w := by
  have hlen : n = l.length := by have := h.1; simpa using this.symm
  subst hlen
  rcases h.2 with ⟨_, h0⟩ | ⟨g, cap, cur, rfl, hg, hh, hcap, hm, hsz, htk⟩
  · exact absurd (List.length_eq_zero_iff.1 h0) hne
  · refine run_convert_bytes_back w src dst e ⟨g, 0, none⟩ cap l hs he hd (fun j hj => ?_)
    have h1 : (cur.toList.take (l.length * 1))[j]? = some (.int .u8 (l[j].toNat : Int)) := by rw [htk]; simp [hj]
    rw [List.getElem?_take_of_lt (by omega)] at h1
    have h2 : w.cell? ⟨g, j, none⟩ = cur[j]? := by simp [World.cell?, hh]
    have h3 : (⟨g, 0, none⟩ : Addr).add j = ⟨g, j, none⟩ := by
      unfold Addr.add
      split
      · rename_i h; subst h; rfl
      · simp
    rw [h3, h2]
    simpa using h1
theorem ofNat_toNat8 (n : Nat) (h : n < 256) : (UInt8.ofNat n).toNat = n := by simp; omega

set_option maxHeartbeats 800000 in
set_option maxRecDepth 100000 in
theorem num_any (n : Nat) (hn : n < 9223372036854775808) (w : World) : Calls Try.prog 87 #[.int .i64 n] w (NumEnd n w) := by
  obtain ⟨i0, hi, hz0, hz1, hz2⟩ := info_parts Try.infoU8
  go_enter Try.func87, Try.ntmps87
  go_wp2
  go_loopw [0, 4] (fun m v wr => ∃ (M f : Nat) (xs : List UInt8), m = .int .i64 M ∧ M < 9223372036854775808 ∧ xs.length + f = 9 ∧ (M < 128 ^ f ∧ xs ++ numF f M = numL n ∧ Below w.heap.size w wr ∧
      wr.ownsRow w.heap.size 5 1 v xs.length (xs.map fun c => Value.int .u8 (c.toNat : Int)))) (fun m _ _ => (intOf m).toNat)
  case atStart => exact ⟨n, 9, [], rfl, hn, rfl, by simpa using hn, rfl, Below.refl _ _, World.ownsRow_nil _ _ _ _⟩
  case round =>
    obtain ⟨M, f, xs, rfl, hM, hf, hX⟩ := hrel
    have HX := Lib.hid hX
    have hbs := hX.2.2.1.size
    clear hX
    by_cases hbig : 127 < M
    · have f1 := and127 M hM
      have f2 := or128 M
      go_wp2_with (at_builtin; refine wpList_append_own _ rfl _ _ 103 rfl w.heap.size 5 i0 (.int .u8 0) 1 1 Try.underlying103 hi hz0 hz1 hz2 rfl (by decide) _ _ _ rfl (HX.out.2.2.2.alloc _) ⟨wr.heap.size, 0, none⟩ 1 1 [.int .u8 (↑M % 128 + 128)] rfl rfl ?c1 ?c2 ?c3 ?c4 ?c5 ?_)
      case c1 =>
        intro j u hj
        match j, hj with
        | 0, hj => simp at hj; subst hj; simp [Addr.add]
      case c2 => intro u hu; simp at hu; subst hu; rfl
      case c3 => unfold maxLen; omega
      case c4 => omega
      case c5 => simp; omega
      intro v' w1 hown' hgrow _
      have HO := Lib.hid hown'
      have HG := Lib.hid hgrow
      clear hown' hgrow f1 f2
      obtain ⟨g, rfl⟩ : ∃ g, f = g + 1 := ⟨f - 1, by
        rcases Nat.eq_zero_or_pos f with e | e
        · rw [e] at HX; have := HX.out.1; simp at this; omega
        · omega⟩
      have HN : Hid (xs ++ [UInt8.ofNat (M % 128 + 128)] ++ numF g (M / 128) = numL n ∧ M / 128 < 128 ^ g) := by
        refine ⟨?_, ?_⟩
        · rw [← HX.out.2.1, numF, if_neg (by omega)]; simp
        · have h1 := HX.out.1
          rw [Nat.pow_succ] at h1
          omega
      have HV : Hid (w1.ownsRow w.heap.size 5 1 v' (xs ++ [UInt8.ofNat (M % 128 + 128)]).length ((xs ++ [UInt8.ofNat (M % 128 + 128)]).map fun c => Value.int .u8 (c.toNat : Int))) := by
        have h1 := HO.out
        have h2 : ((UInt8.ofNat (M % 128 + 128)).toNat : Int) = (M : Int) % 128 + 128 := by rw [ofNat_toNat8 _ (by omega)]; omega
        show w1.ownsRow _ _ _ _ _ _
        rw [List.map_append, List.length_append, List.map_cons, h2]
        exact h1
      have HW : Hid (Below w.heap.size w w1) := (HX.out.2.2.1.alloc hbs _).grown HG.out (by simp; omega) (ownBlock_base HX.out.2.2.2)
      clear HO HG
      go_wp2_with fail
      go_roundw
      case rel => exact ⟨M / 128, g, _, intv (by omega), by omega, by simp; omega, HN.out.2, HN.out.1, HW.out, HV.out⟩
      case measure => simp [intOf]; omega
    · go_wp2_with (at_builtin; refine wpList_append_own _ rfl _ _ 103 rfl w.heap.size 5 i0 (.int .u8 0) 1 1 Try.underlying103 hi hz0 hz1 hz2 rfl (by decide) _ _ _ rfl (HX.out.2.2.2.alloc _) ⟨wr.heap.size, 0, none⟩ 1 1 [.int .u8 ↑M] rfl rfl ?d1 ?d2 ?d3 ?d4 ?d5 ?_)
      case d1 =>
        intro j u hj
        match j, hj with
        | 0, hj => simp at hj; subst hj; simp [Addr.add]
      case d2 => intro u hu; simp at hu; subst hu; rfl
      case d3 => unfold maxLen; omega
      case d4 => omega
      case d5 => simp; omega
      intro v' w1 hown' hgrow _
      have HW : Hid (Below w.heap.size w w1) := (HX.out.2.2.1.alloc hbs _).grown hgrow (by simp; omega) (ownBlock_base HX.out.2.2.2)
      have hnm : xs ++ [UInt8.ofNat M] = numL n := by
        rw [← HX.out.2.1]
        cases f with
        | zero => rw [numF]
        | succ g => rw [numF, if_pos (by omega)]
      have h2 : ((UInt8.ofNat M).toNat : Int) = (M : Int) := by rw [ofNat_toNat8 _ (by omega)]
      have hcv : (convert 103 9 v').run Try.prog w1 = .ok (.string (bstr (numL n))) w1 := by
        rw [← hnm]
        refine convert_own (n := xs.length + 1) (base := w.heap.size) Try.underlying103 Try.underlying5 Try.underlying9 ?_ (by simp)
        rw [List.map_append, List.map_cons, h2]
        exact hown'
      clear hown' hgrow h2 hnm
      go_wp2_with fail
      go_ret2
      exact ⟨rfl, HW.out⟩
end Go.Proofs.Ytlfljlhppigejab
namespace Go.Proofs.Ytlfljlhppigejab
open Go.RowKit

/-- 'string(b)' of a row of bytes that has just been made. -/
theorem convert_new (w : World) (S : Nat) (hS : S = w.heap.size) (l : List UInt8) (cs : Array Value) (n : Nat) (hn : n = l.length) (hc : cs.toList = l.map fun c => Value.int .u8 (c.toNat : Int)) :
    (convert 103 9 (.slice (some ⟨S, 0, none⟩) n n)).run Try.prog (w.alloc (.cells cs 5)) = .ok (.string (bstr l)) (w.alloc (.cells cs 5)) := by
  subst hn hS
  refine run_convert_bytes_back _ _ _ 5 ⟨w.heap.size, 0, none⟩ l.length l Try.underlying103 Try.underlying5 Try.underlying9 (fun j hj => ?_)
  have h3 : (⟨w.heap.size, 0, none⟩ : Addr).add j = ⟨w.heap.size, j, none⟩ := by
    unfold Addr.add
    split
    · rename_i h; subst h; rfl
    · simp
  rw [h3, World.cell?_alloc_new]
  have h4 : cs.toList[j]? = some (.int .u8 (l[j].toNat : Int)) := by rw [hc]; simp [hj]
  simpa using h4
theorem list_append (a b : ByteArray) : (a ++ b).data.toList = a.data.toList ++ b.data.toList := by simp [ByteArray.data_append]

set_option maxHeartbeats 800000 in
set_option maxRecDepth 100000 in
theorem frame_any (k : UInt8) (s : ByteArray) (hs : s.size ≤ 1000000) (w : World) : Calls Try.prog 44 #[.int .u8 (k.toNat : Int), .string s] w fun e w' => e = .returned (.string (bstr (frameL k s.data.toList))) ∧ Below w.heap.size w w' := by
  have c1 := convert_new w _ rfl [k] #[.int .u8 (k.toNat : Int)] 1 rfl rfl
  have z1 : (bstr [k]).size = 1 := bstr_size _
  obtain ⟨H, hH⟩ : ∃ H : ByteArray, { data := #[70, 89, 49] } ++ bstr [k] ++ s = H := ⟨_, rfl⟩
  have hHl : H.data.toList = headL k s.data.toList := by rw [← hH, list_append, list_append, bstr_list]; rfl
  have hHs : H.size = s.size + 4 := by
    have h1 : H.data.toList.length = s.data.toList.length + 4 := by rw [hHl]; simp [headL]
    simpa using h1
  have HL := Lib.hid hHl
  clear hHl
  go_enter Try.func44, Try.ntmps44
  go_wp2_with fail
  refine (sum_any H (by omega) _).mono ?_
  rintro e w1 ⟨rfl, rfl⟩
  clear c1 z1
  obtain ⟨x, hx⟩ : ∃ x, crcL H.data.toList = x := ⟨_, rfl⟩
  rw [hx]
  have HX := Lib.hid (show crcL (headL k s.data.toList) = x by rw [← HL.out]; exact hx)
  clear hx
  have hxl := x.isLt
  obtain ⟨z, hz⟩ : ∃ z, x.toNat = z := ⟨_, rfl⟩
  rw [hz] at hxl ⊢
  have HZ := Lib.hid hz
  clear hz
  have c2 := convert_new (w.alloc (.cells #[.int .u8 (k.toNat : Int)] 5)) (w.heap.size + 1) (by simp) (le4 x) #[.int .u8 ((z : Int) % 256), .int .u8 ((z : Int) / 256 % 256), .int .u8 ((z : Int) / 65536 % 256), .int .u8 ((z : Int) / 16777216)] 4 rfl (by
    have h1 := HZ.out
    simp only [le4, h1, List.map_cons, List.map_nil]
    rw [ofNat_toNat8 _ (by omega), ofNat_toNat8 _ (by omega), ofNat_toNat8 _ (by omega), ofNat_toNat8 _ (by omega), show z / 16777216 % 256 = z / 16777216 from by omega]
    rfl)
  have z2 : (bstr (le4 x)).size = 4 := bstr_size _
  have hfin : Hid (H ++ bstr (le4 x) = bstr (frameL k s.data.toList)) := by
    show _ = _
    rw [← bstr_of (H ++ bstr (le4 x)), list_append, bstr_list, HL.out]
    unfold frameL
    rw [HX.out]
  go_wp2_with fail
  go_ret
  exact ⟨ret1 (strv hfin.out), ((Below.refl _ _).alloc (Nat.le_refl _) _).alloc (by simp) _⟩
end Go.Proofs.Ytlfljlhppigejab
namespace Go.Proofs.Ytlfljlhppigejab
open Go.RowKit

/-- What Open hands back. -/
def OpenEnd (k : UInt8) (l : List UInt8) (w : World) (e : Ending) (w' : World) : Prop :=
  e = .returned (.tuple #[.string (bstr (openL k l).1), errV (openL k l).2]) ∧ Below w.heap.size w w'
theorem OpenEnd.mk {k : UInt8} {l : List UInt8} {w w' : World} {r : List UInt8 × Nat} {a b : Value} (h : openL k l = r) (h1 : a = .string (bstr r.1)) (h2 : b = errV r.2) (hb : Below w.heap.size w w') :
    OpenEnd k l w (.returned (.tuple #[a, b])) w' := by
  unfold OpenEnd
  rw [h, h1, h2]
  exact ⟨rfl, hb⟩
theorem head3 (s : ByteArray) (k : UInt8) (h8 : 8 ≤ s.size) : s.data.toList.take 4 = [70, 89, 49, k] ↔ (s.extract 0 3).toList = [70, 89, 49] ∧ s[3] = k := by
  have h1 : (s.extract 0 3).toList = s.data.toList.take 3 := by rw [Lib.toList_data, Lib.extract_data]; simp
  have h2 : s.data.toList.take 4 = s.data.toList.take 3 ++ [s[3]] := take_snoc s 3 (by omega)
  rw [h1, h2]
  constructor
  · intro h
    have h3 : s.data.toList.take 3 ++ [s[3]] = [70, 89, 49] ++ [k] := h
    have h4 := List.append_inj h3 (by simp; omega)
    exact ⟨h4.1, by simpa using h4.2⟩
  · rintro ⟨h3, h4⟩
    rw [h3, h4]
    simp
theorem body_list (s : ByteArray) (_h8 : 8 ≤ s.size) : (s.extract 4 (s.size - 4)).data.toList = (s.data.toList.drop 4).take (s.data.toList.length - 8) := by
  rw [Lib.extract_data]
  congr 1
theorem body_size (s : ByteArray) (h8 : 8 ≤ s.size) : (s.extract 4 (s.size - 4)).size = s.size - 8 := by
  have h := congrArg List.length (body_list s h8)
  simp only [List.length_take, List.length_drop] at h
  have e1 : (s.extract 4 (s.size - 4)).data.toList.length = (s.extract 4 (s.size - 4)).size := by simp only [Array.length_toList, ByteArray.size_data]
  have e2 : s.data.toList.length = s.size := by simp
  omega

set_option maxHeartbeats 800000 in
set_option maxRecDepth 100000 in
theorem open_any (k : UInt8) (s : ByteArray) (hs : s.size ≤ 900000) (w : World) : Calls Try.prog 89 #[.int .u8 (k.toNat : Int), .string s] w (OpenEnd k s.data.toList w) := by
  by_cases h8 : s.size < 8
  · have hr : Hid (openL k s.data.toList = ([], 4)) := by show _ = _; unfold openL; rw [if_pos (by simpa using h8)]
    go_enter Try.func89, Try.ntmps89
    go_wp2_with fail
    go_ret2
    exact OpenEnd.mk hr.out rfl rfl (Below.refl _ _)
  · have hh := head3 s k (by omega)
    by_cases ht : s.data.toList.take 4 = [70, 89, 49, k]
    · obtain ⟨e1, e2⟩ := hh.1 ht
      have e3 : ((s[3].toNat : Int) != (k.toNat : Int)) = false := by rw [e2]; simp
      have hbl := body_list s (by omega)
      have hbs := body_size s (by omega)
      have hr : Hid (openL k s.data.toList = if frameL k (s.extract 4 (s.size - 4)).data.toList ≠ s.data.toList then ([], 5) else ((s.extract 4 (s.size - 4)).data.toList, 0)) := by
        show _ = _
        have hlen : s.data.toList.length = s.size := by simp
        unfold openL
        rw [if_neg (by omega), if_neg (by simp [ht]), hbl]
      obtain ⟨B, hB⟩ : ∃ B, s.extract 4 (s.size - 4) = B := ⟨_, rfl⟩
      rw [hB] at hr hbs
      clear hh ht hbl e2
      by_cases hf : frameL k B.data.toList = s.data.toList
      · have hr2 : Hid (openL k s.data.toList = (B.data.toList, 0)) := by show _ = _; rw [hr.out, if_neg (by simp [hf])]
        have hf2 : Hid (bstr (frameL k B.data.toList) = s) := by show _ = _; rw [hf, bstr_of]
        clear hr hf
        go_enter Try.func89, Try.ntmps89
        go_wp2_with fail
        refine (frame_any k B (by omega) _).mono ?_
        rintro e w1 ⟨rfl, hb⟩
        rw [hf2.out]
        have HB := Lib.hid hB
        clear hB
        go_wp2_with fail
        go_ret2
        exact OpenEnd.mk hr2.out (strv (by rw [bstr_of]; exact HB.out)) rfl hb
      · have hr2 : Hid (openL k s.data.toList = ([], 5)) := by show _ = _; rw [hr.out, if_pos hf]
        have hf2 : ((bstr (frameL k B.data.toList)).toList == s.toList) = false := by
          rw [beq_eq_false_iff_ne, Lib.toList_data, Lib.toList_data, bstr_list]
          exact hf
        clear hr hf
        go_enter Try.func89, Try.ntmps89
        go_wp2_with fail
        refine (frame_any k B (by omega) _).mono ?_
        rintro e w1 ⟨rfl, hb⟩
        generalize bstr (frameL k B.data.toList) = F at *
        have hf3 : (!F.toList == s.toList) = true := by rw [hf2]; rfl
        clear hB
        go_wp2_with fail
        go_ret2
        exact OpenEnd.mk hr2.out rfl rfl hb
    · by_cases e1 : (s.extract 0 3).toList = [70, 89, 49]
      · have e2 : ((s[3].toNat : Int) != (k.toNat : Int)) = true := by
          have : ¬ s[3] = k := fun e => ht (hh.2 ⟨e1, e⟩)
          simp
          intro e
          exact this (UInt8.toNat_inj.1 (by omega))
        have hr2 : Hid (openL k s.data.toList = ([], 6)) := by
          have hlen : s.data.toList.length = s.size := by simp
          show _ = _
          unfold openL
          rw [if_neg (by omega), if_pos ht]
        clear hh ht
        go_enter Try.func89, Try.ntmps89
        go_wp2_with fail
        go_ret2
        exact OpenEnd.mk hr2.out rfl rfl (Below.refl _ _)
      · have hr2 : Hid (openL k s.data.toList = ([], 6)) := by
          have hlen : s.data.toList.length = s.size := by simp
          show _ = _
          unfold openL
          rw [if_neg (by omega), if_pos ht]
        clear hh ht
        go_enter Try.func89, Try.ntmps89
        go_wp2_with fail
        go_ret2
        exact OpenEnd.mk hr2.out rfl rfl (Below.refl _ _)

end Go.Proofs.Ytlfljlhppigejab
