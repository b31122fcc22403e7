/-
  The walk of snap's in.elder. The walk of snap's in.newer.
-/
import Derived.Test.YtlfljlhppigejabPackIn
import Derived.Test.YtlfljlhppigejabPackMix
import Derived.Test.YtlfljlhppigejabElderBury
import Derived.RegionTactic
import Derived.Deep.RegionWith
import Derived.BigRegion
import Derived.Deep.DeepCutAuto
namespace Go.Proofs.Ytlfljlhppigejab
open Go.RowKit
attribute [local go_sem] qUp qOneK

theorem nums_st (st : St) (k : Nat) : (numsI st (k + 1)).2 = (numI (numsI st k).2).2 := rfl
theorem nums_succ (st : St) (k : Nat) : (numsI st (k + 1)).1 = (numsI st k).1 ++ [(numI (numsI st k).2).1] := rfl
theorem unitsE_st0 (j : Nat) (mk : List Int → U) (st : St) (k : Nat) : (unitsI j mk st (k + 1)).2 = (numsI (unitsI j mk st k).2 j).2 := rfl
theorem unitsE_ls0 (j : Nat) (mk : List Int → U) (st : St) (k : Nat) : (unitsI j mk st (k + 1)).1 = (unitsI j mk st k).1 ++ [mk (numsI (unitsI j mk st k).2 j).1] := rfl
theorem unitsE_st (st : St) (k : Nat) : (unitsI 10 mkE st (k + 1)).2 = (numsI (unitsI 10 mkE st k).2 10).2 := unitsE_st0 10 mkE st k
theorem unitsE_succ (st : St) (k : Nat) : cellsAll (unitsI 10 mkE st (k + 1)).1 = cellsAll (unitsI 10 mkE st k).1 ++ cellsE (mkE (numsI (unitsI 10 mkE st k).2 10).1) := by
  rw [unitsE_ls0]
  unfold cellsAll
  rw [List.flatMap_append]
  simp
set_option maxHeartbeats 12800000 in
set_option maxRecDepth 100000 in
theorem elder_in (st : St) (S : Nat) (w : World) (h : Blk w S (inC st)) (hlen : st.1.length ≤ 1000000) :
    Calls Try.prog 57 #[.pointer (some ⟨S, 0, none⟩)] w fun e w' => ∃ fv ev, e = .returned (.agg #[.int .i64 (elderI st).1.tick, .int .i64 (elderI st).1.g0, .int .i64 (elderI st).1.g1, .int .i64 (elderI st).1.next, fv, ev]) ∧
      Blk w' S (inC (elderI st).2) ∧ Kp (fun b => b = S) w w' ∧ w'.ownsRow w.heap.size 3 1 fv (elderI st).1.free.length (intCells (elderI st).1.free) ∧ w'.ownsRow w.heap.size 83 10 ev (elderI st).1.us.length (cellsAll (elderI st).1.us) := by
  obtain ⟨W, hW⟩ : ∃ W, (w.alloc (.cells #[.int .i64 0, .int .i64 0, .int .i64 0, .int .i64 0, .slice none 0 0, .slice none 0 0] 26)).alloc (.cells #[.int .i64 0, .int .i64 0, .int .i64 0, .int .i64 0, .slice none 0 0, .slice none 0 0] 26) = W := ⟨_, rfl⟩
  have hbW : Below w.heap.size w W := by rw [← hW]; exact ((Below.refl _ _).alloc (Nat.le_refl _) _).alloc (by simp) _
  have k1 : Blk W w.heap.size #[.int .i64 0, .int .i64 0, .int .i64 0, .int .i64 0, .slice none 0 0, .slice none 0 0] := by rw [← hW]; exact (Blk.new w _ _).alloc _
  have k2 : Blk W (w.heap.size + 1) #[.int .i64 0, .int .i64 0, .int .i64 0, .int .i64 0, .slice none 0 0, .slice none 0 0] := by
    rw [← hW]
    have := Blk.new (w.alloc (.cells #[.int .i64 0, .int .i64 0, .int .i64 0, .int .i64 0, .slice none 0 0, .slice none 0 0] 26)) #[.int .i64 0, .int .i64 0, .int .i64 0, .int .i64 0, .slice none 0 0, .slice none 0 0] 26
    simpa using this
  have hWs : W.heap.size = w.heap.size + 2 := by rw [← hW]; simp
  have hSw := h.lt
  have H := Lib.hid (h.call hbW)
  have K1 := Lib.hid k1
  have K2 := Lib.hid k2
  have HB := Lib.hid hbW
  have HWS := Lib.hid hWs
  have hKW := k2.lt
  clear h hbW k1 k2 hWs
  go_enter Try.func57, Try.ntmps57
  go_upto_region 2 with fail
  try rw [hW]
  clear hW
  go_wp2_with fail
  have hb1 : Below W.heap.size W (W.alloc (.cells #[.pointer (some ⟨w.heap.size + 1, 0, none⟩), .pointer (some ⟨w.heap.size + 1, 1, none⟩), .pointer (some ⟨w.heap.size + 1, 2, none⟩), .pointer (some ⟨w.heap.size + 1, 3, none⟩)] 121)) := (Below.refl _ _).alloc (Nat.le_refl _) _
  refine (nums_in st S (w.heap.size + 1) W.heap.size 4 4 _ _ (H.out.call hb1) (K2.out.call hb1) (by decide) (by omega) (fun k hk => by
    rw [World.cell?_alloc_new]
    have hk' : k = 0 ∨ k = 1 ∨ k = 2 ∨ k = 3 := by omega
    rcases hk' with rfl | rfl | rfl | rfl <;> rfl) (by simp) (by omega) (by omega) (fun k => Nat.le_trans (numsI_shrinks st k) hlen) (by omega)).mono ?_
  rintro e w1 ⟨rfl, bS1, bK1, kp1⟩
  rw [put4 (numsI_length st 4)] at bK1
  obtain ⟨t0, ht0⟩ : ∃ x, (numsI st 4).1.getD 0 0 = x := ⟨_, rfl⟩
  obtain ⟨t1, ht1⟩ : ∃ x, (numsI st 4).1.getD 1 0 = x := ⟨_, rfl⟩
  obtain ⟨t2, ht2⟩ : ∃ x, (numsI st 4).1.getD 2 0 = x := ⟨_, rfl⟩
  obtain ⟨t3, ht3⟩ : ∃ x, (numsI st 4).1.getD 3 0 = x := ⟨_, rfl⟩
  rw [ht0, ht1, ht2, ht3] at bK1
  obtain ⟨s1, hs1⟩ : ∃ x, (numsI st 4).2 = x := ⟨_, rfl⟩
  rw [hs1] at bS1
  have hl1 : s1.1.length ≤ 1000000 := by rw [← hs1]; exact Nat.le_trans (numsI_shrinks st 4) hlen
  have kp1' : Kp (fun b => b = S ∨ b = w.heap.size + 1) W w1 := (kp_of hb1 _).trans kp1 (fun _ _ h => h)
  have BS1 := Lib.hid bS1
  have BK1 := Lib.hid bK1
  have KP1 := Lib.hid kp1'
  have HT := Lib.hid (show (numsI st 4).1.getD 0 0 = t0 ∧ (numsI st 4).1.getD 1 0 = t1 ∧ (numsI st 4).1.getD 2 0 = t2 ∧ (numsI st 4).1.getD 3 0 = t3 ∧ (numsI st 4).2 = s1 from ⟨ht0, ht1, ht2, ht3, hs1⟩)
  have hsz1 := kp1'.size
  clear hb1 bS1 bK1 kp1 kp1' ht0 ht1 ht2 ht3 hs1
  go_wp2_with fail
  refine (many_in s1 200 S w1 BS1.out hl1).mono ?_
  rintro e w2 ⟨rfl, bS2, kp2⟩
  have hrg := manyI_range s1 200 (by omega)
  obtain ⟨nI, hnI⟩ : ∃ x, (manyI s1 200).1 = x := ⟨_, rfl⟩
  obtain ⟨s2, hs2⟩ : ∃ x, (manyI s1 200).2 = x := ⟨_, rfl⟩
  have hl2 : s2.1.length ≤ 1000000 := by rw [← hs2]; exact Nat.le_trans (manyI_shrinks s1 200) hl1
  rw [hnI] at hrg ⊢
  rw [hs2] at bS2
  obtain ⟨n, rfl⟩ := Int.eq_ofNat_of_zero_le hrg.1
  have hn200 : n ≤ 200 := by omega
  have HN := Lib.hid (show (manyI s1 200).1 = (n : Int) ∧ (manyI s1 200).2 = s2 from ⟨hnI, hs2⟩)
  have bK2 := BK1.out.kp kp2 (by omega)
  have BS2 := Lib.hid bS2
  have BK2 := Lib.hid bK2
  have KP2 := Lib.hid (KP1.out.trans kp2 (fun _ _ h => Or.inl h))
  have hsz2 := kp2.size
  have hn0 : (0 : Int) ≤ (n : Int) := by omega
  clear bS2 kp2 bK2 hnI hs2 hrg
  go_wp2_with fail
  go_loopw [16] (fun i wr => ∃ k : Nat, i = .int .i64 k ∧ k ≤ n ∧ (Blk wr S (inC (numsI s2 k).2) ∧ (∃ fv, Blk wr (w.heap.size + 1) #[.int .i64 t0, .int .i64 t1, .int .i64 t2, .int .i64 t3, fv, .slice none 0 0] ∧ wr.ownsRow W.heap.size 3 1 fv k (intCells (numsI s2 k).1)) ∧ Kp (fun b => b = S ∨ b = w.heap.size + 1) W wr)) (fun i _ => (n - intOf i).toNat)
  case atStart => exact ⟨0, rfl, by omega, BS2.out, ⟨_, BK2.out, World.ownsRow_nil _ _ _ _⟩, KP2.out⟩
  case round =>
    obtain ⟨k, rfl, hk, bS, ⟨fv, bK, own⟩, kr⟩ := hrel
    have hszr := kr.size
    obtain ⟨fva, fvc, rfl⟩ := own_slice own
    by_cases hlt : k < n
    · have hki : (0 : Int) ≤ (k : Int) := by omega
      have hkl : (k : Int) < (n : Int) := by omega
      obtain ⟨lK, cK, fK⟩ := id bK
      have lS := bS.lt
      have hlk : (numsI s2 k).2.1.length ≤ 1000000 := Nat.le_trans (numsI_shrinks s2 k) hl2
      have FVB : ∀ b, (Value.slice fva k fvc).ownBlock = some b → W.heap.size ≤ b ∧ b < wr.heap.size := fun b hb => World.ownsRow.lt own b hb
      have hws : w.heap.size + 2 ≤ W.heap.size := by have := HWS.out; omega
      have nS : (Value.slice fva k fvc).ownBlock ≠ some S := fun e => by have := (FVB _ e).1; omega
      have nKf : (Value.slice fva k fvc).ownBlock ≠ some (w.heap.size + 1) := fun e => by have := (FVB _ e).1; omega
      have nK : ¬ (w.heap.size + 1 = S ∨ (Value.slice fva k fvc).ownBlock = some (w.heap.size + 1)) := fun h => h.elim (by omega) nKf
      have hK4 : wr.cell? ⟨w.heap.size + 1, 4, none⟩ = some (.slice fva k fvc) := cK 4
      have BS := Lib.hid bS
      have BK := Lib.hid bK
      have OWN := Lib.hid own
      have KR := Lib.hid kr
      have HFVB := Lib.hid FVB
      have HWR : W.heap.size ≤ wr.heap.size := hszr
      have hk199 : k < 200 := by omega
      obtain ⟨N, hN⟩ : ∃ x, (numI (numsI s2 k).2).1 = x := ⟨_, rfl⟩
      have HNN := Lib.hid hN
      obtain ⟨i1, hi0, hz0, hz1, hz2⟩ := info_parts infoInt
      clear bS bK own kr hN cK fK FVB
      go_upto_region 5 with fail
      haveI := Kw.ne (fun b => b = S ∨ (Value.slice fva k fvc).ownBlock = some b) wr
      have kx1 : ∀ x : Kw (fun b => b = S ∨ (Value.slice fva k fvc).ownBlock = some b) wr, x.w.cell? ⟨w.heap.size + 1, 4, none⟩ = some (.slice fva k fvc) := fun x => (x.cell _ _ lK nK).trans hK4
      refine region_mix 6 [(false, 0), (false, 1), (false, 2), (true, 3), (true, 4), (true, 5)] (kcl (fun b => b = S ∨ (Value.slice fva k fvc).ownBlock = some b) wr (fun x => x.ownsRow W.heap.size 3 1 (.slice fva k fvc) k (intCells (numsI s2 k).1) ∧ Blk x S (inC (numsI s2 k).2)) (fun x x' h hb => ⟨own_kp h.1 (kp_of hb (fun _ => False)) (fun _ _ y => y), h.2.call hb⟩)) ⟨Kp.drew _ _, OWN.out, BS.out⟩ (by kernel_rfl) (by kernel_rfl) ?_
      simp only [stepsOf, List.filterMap_cons, List.filterMap_nil, List.getElem?_toArray, List.getElem?_cons_zero, List.getElem?_cons_succ, Option.map_some, List.drop_succ_cons, List.drop_zero]
      repeat (refine mix_readK (fun K hK => ?_); go_simp; refine hK _ ?_; clear hK K)
      refine mix_call (ι := Unit) (fun _ => .int .i64 N) (fun _ => kcl (fun b => b = S ∨ (Value.slice fva k fvc).ownBlock = some b) wr (fun x => x.ownsRow W.heap.size 3 1 (.slice fva k fvc) k (intCells (numsI s2 k).1) ∧ Blk x S (inC (numI (numsI s2 k).2).2)) (fun x x' h hb => ⟨own_kp h.1 (kp_of hb (fun _ => False)) (fun _ _ y => y), h.2.call hb⟩)) 90 #[.pointer (some ⟨S, 0, none⟩)] rfl (fun x => by simp [go_sem]) (fun x h => ?_) (fun _ => ?_)
      · exact (num_in (numsI s2 k).2 S x h.2.2 hlk).mono (fun e x' ⟨he, hb, hkp⟩ => ⟨(), by rw [he, HNN.out], h.1.trans hkp (fun b _ hb => Or.inl hb), own_kp h.2.1 hkp (fun b hb e => nS (by rw [hb, show b = S from e])), hb⟩)
      refine mix_new (fun q => .slice (some ⟨q, 0, none⟩) 1 1) #[.int .i64 N] 3 rfl (fun x => by simp [go_sem]) (fun q => ?_)
      refine mix_append2 (fun x => Blk x S (inC (numI (numsI s2 k).2).2)) q #[.int .i64 N] 3 (.tmp 19) (.tmp 22) 23 rfl rfl W.heap.size 3 i1 _ 1 8 Try.underlying23 hi0 hz0 hz1 hz2 rfl (by omega) (.slice fva k fvc) k (intCells (numsI s2 k).1) rfl rfl rfl (by simp [Value.oneCell']) (by unfold maxLen; omega) (by omega) HWR (fun b h => Or.inr h) (fun x h => h.2.2.2) (fun x _ h => h.1.1) (fun x h => h.1.2) (fun x x' h hk => h.kp hk nS) (fun g2 cap2 => ?_)
      refine mix_nil ?_
      rintro w14 ⟨k14, ⟨own14, hgg⟩, bS14⟩
      have hK14 : w14.cell? ⟨w.heap.size + 1, 4, none⟩ = some (.slice fva k fvc) := (k14.cell _ _ lK nK).trans hK4
      have bK14 := BK.out.kp k14 nK
      have fK14 := bK14.2.2 4
      have kp14 := KR.out.trans k14 (fun c hc e => by rcases e with h | h; exact Or.inl h; have := (HFVB.out c h).1; omega)
      have hcs : intCells (numsI s2 k).1 ++ #[Value.int .i64 N].toList = intCells (numsI s2 (k + 1)).1 := by rw [← HNN.out]; unfold intCells; rw [nums_succ, List.map_append]; rfl
      rw [hcs] at own14
      have hg2 : g2 ≠ w.heap.size + 1 := by rcases hgg with h | h; exact fun e => nKf (by rw [h, e]); omega
      refine wpList_plain rfl (fun K hK => ?_); go_simp; refine hK _ _ ?_; clear hK K
      refine list_store1 (w.heap.size + 1) 4 (.slice (some ⟨g2, 0, none⟩) (k + 1) cap2) 23 (.tmp 24) (.tmp 23) rfl rfl rfl rfl rfl (by rw [hK14]; rfl) fK14 rfl (by kernel_rfl) (fun Z => Blk Z S (inC (numsI s2 (k + 1)).2) ∧ Blk Z (w.heap.size + 1) #[.int .i64 t0, .int .i64 t1, .int .i64 t2, .int .i64 t3, .slice (some ⟨g2, 0, none⟩) (k + 1) cap2, .slice none 0 0] ∧ Z.ownsRow W.heap.size 3 1 (.slice (some ⟨g2, 0, none⟩) (k + 1) cap2) (k + 1) (intCells (numsI s2 (k + 1)).1) ∧ Kp (fun b => b = S ∨ b = w.heap.size + 1) W Z) ⟨?_, ?_, ?_, kp14.andset ⟨w.heap.size + 1, 4, none⟩ _ (Or.inr rfl)⟩ ?_
      · rw [nums_st]; exact bS14.other (by omega)
      · have := bK14.store (.slice (some ⟨g2, 0, none⟩) (k + 1) cap2) (i := 4) (by simp)
        simpa using this
      · exact own_kp own14 (Kp.setCell w14 ⟨w.heap.size + 1, 4, none⟩ _) (fun b hb e => by have h1 : g2 = b := Option.some.inj (show some g2 = some b from hb); have h2 : b = w.heap.size + 1 := e; omega)
      rintro Z ⟨bSZ, bKZ, ownZ, kpZ⟩
      have BSZ := Lib.hid bSZ
      have BKZ := Lib.hid bKZ
      have OWNZ := Lib.hid ownZ
      have KPZ := Lib.hid kpZ
      clear bSZ bKZ ownZ kpZ hK14 bK14 fK14 kp14 hcs own14 bS14 hgg k14 kx1 hi0 hz0 hz1 hz2 hK4
      go_wp2_with fail
      go_roundw
      case rel => exact ⟨k + 1, by go_num, by omega, BSZ.out, ⟨_, BKZ.out, OWNZ.out⟩, KPZ.out⟩
      case measure => simp [intOf]; omega
    · obtain rfl : k = n := by omega
      obtain ⟨s3, hs3⟩ : ∃ x, (numsI s2 k).2 = x := ⟨_, rfl⟩
      obtain ⟨FR, hFR⟩ : ∃ x, (numsI s2 k).1 = x := ⟨_, rfl⟩
      have hl3 : s3.1.length ≤ 1000000 := by rw [← hs3]; exact Nat.le_trans (numsI_shrinks s2 k) hl2
      have hfl : FR.length = k := by rw [← hFR]; exact numsI_length _ _
      have HS3 := Lib.hid (show (numsI s2 k).2 = s3 ∧ (numsI s2 k).1 = FR from ⟨hs3, hFR⟩)
      rw [hs3] at bS
      rw [hFR] at own
      have BS := Lib.hid bS
      have BK := Lib.hid bK
      have OWN := Lib.hid own
      have KR := Lib.hid kr
      clear bS bK own kr hs3 hFR
      go_wp2_with fail
      refine (many_in s3 20 S wr BS.out hl3).mono ?_
      rintro e w4 ⟨rfl, bS4, kp4⟩
      have hrg := manyI_range s3 20 (by omega)
      obtain ⟨mI, hmI⟩ : ∃ x, (manyI s3 20).1 = x := ⟨_, rfl⟩
      obtain ⟨s4, hs4⟩ : ∃ x, (manyI s3 20).2 = x := ⟨_, rfl⟩
      have hl4 : s4.1.length ≤ 1000000 := by rw [← hs4]; exact Nat.le_trans (manyI_shrinks s3 20) hl3
      rw [hmI] at hrg ⊢
      rw [hs4] at bS4
      obtain ⟨m, rfl⟩ := Int.eq_ofNat_of_zero_le hrg.1
      have hm20 : m ≤ 20 := by omega
      have HM := Lib.hid (show (manyI s3 20).1 = (m : Int) ∧ (manyI s3 20).2 = s4 from ⟨hmI, hs4⟩)
      have hws : w.heap.size + 2 ≤ W.heap.size := by have := HWS.out; omega
      have FVB : ∀ b, (Value.slice fva k fvc).ownBlock = some b → W.heap.size ≤ b ∧ b < wr.heap.size := fun b hb => World.ownsRow.lt OWN.out b hb
      have bK4 := BK.out.kp kp4 (by omega)
      have own4 := own_kp OWN.out kp4 (fun b hb e => by have := (FVB b hb).1; have h2 : b = S := e; omega)
      have BS4 := Lib.hid bS4
      have BK4 := Lib.hid bK4
      have OWN4 := Lib.hid own4
      have KP4 := Lib.hid (KR.out.trans kp4 (fun _ _ h => Or.inl h))
      have hsz4 := kp4.size
      have hm0 : (0 : Int) ≤ (m : Int) := by omega
      have HFVB := Lib.hid FVB
      clear bS4 kp4 bK4 own4 hmI hs4 hrg FVB
      go_wp2_with fail
      go_loopw [28] (fun i wr => ∃ j : Nat, i = .int .i64 j ∧ j ≤ m ∧ (Blk wr S (inC (unitsI 10 mkE s4 j).2) ∧ (∃ ev, Blk wr (w.heap.size + 1) #[.int .i64 t0, .int .i64 t1, .int .i64 t2, .int .i64 t3, .slice fva k fvc, ev] ∧ wr.ownsRow w4.heap.size 83 10 ev j (cellsAll (unitsI 10 mkE s4 j).1)) ∧ Kp (fun b => b = S ∨ b = w.heap.size + 1) w4 wr)) (fun i _ => (m - intOf i).toNat)
      case atStart => exact ⟨0, rfl, by omega, BS4.out, ⟨_, BK4.out, World.ownsRow_nil _ _ _ _⟩, Kp.refl _ _⟩
      case round =>
        obtain ⟨j, rfl, hk, bS, ⟨ev, bK, own⟩, kr⟩ := hrel
        have hszr := kr.size
        obtain ⟨eva, evc, rfl⟩ := own_slice own
        by_cases hlt : j < m
        · have hki : (0 : Int) ≤ (j : Int) := by omega
          have hkl : (j : Int) < (m : Int) := by omega
          obtain ⟨V1, hV1⟩ : ∃ V, wr.alloc (.cells #[.int .i64 0, .int .i64 0, .int .i64 0, .int .i64 0, .int .i64 0, .int .i64 0, .int .i64 0, .int .i64 0, .int .i64 0, .int .i64 0] 83) = V := ⟨_, rfl⟩
          have hb1 : Below wr.heap.size wr V1 := by rw [← hV1]; exact (Below.refl _ _).alloc (Nat.le_refl _) _
          have kE : Blk V1 wr.heap.size #[.int .i64 0, .int .i64 0, .int .i64 0, .int .i64 0, .int .i64 0, .int .i64 0, .int .i64 0, .int .i64 0, .int .i64 0, .int .i64 0] := by rw [← hV1]; exact Blk.new wr _ _
          have hV1s : V1.heap.size = wr.heap.size + 1 := by rw [← hV1]; simp
          have hb2 : Below V1.heap.size V1 (V1.alloc (.cells #[.pointer (some ⟨wr.heap.size, 0, none⟩), .pointer (some ⟨wr.heap.size, 1, none⟩), .pointer (some ⟨wr.heap.size, 2, none⟩), .pointer (some ⟨wr.heap.size, 3, none⟩), .pointer (some ⟨wr.heap.size, 4, none⟩), .pointer (some ⟨wr.heap.size, 5, none⟩), .pointer (some ⟨wr.heap.size, 6, none⟩), .pointer (some ⟨wr.heap.size, 7, none⟩), .pointer (some ⟨wr.heap.size, 8, none⟩), .pointer (some ⟨wr.heap.size, 9, none⟩)] 121)) := (Below.refl _ _).alloc (Nat.le_refl _) _
          have BS := Lib.hid ((bS.call hb1).call hb2)
          have hSr := bS.lt
          have BK := Lib.hid ((bK.call hb1).call hb2)
          have hKr := bK.lt
          have KE := Lib.hid (kE.call hb2)
          have OWN := Lib.hid (own_kp (own_kp own (kp_of hb1 (fun _ => False)) (fun _ _ x => x)) (kp_of hb2 (fun _ => False)) (fun _ _ x => x))
          have KR := Lib.hid ((kr.then_ hb1).then_ hb2)
          have hlk : (unitsI 10 mkE s4 j).2.1.length ≤ 1000000 := Nat.le_trans (unitsI_shrinks 10 mkE s4 j) hl4
          have EVB := Lib.hid (fun b hb => World.ownsRow.lt own b hb : ∀ b, (Value.slice eva j evc).ownBlock = some b → w4.heap.size ≤ b ∧ b < wr.heap.size)
          have HV1S := Lib.hid hV1s
          clear bS bK kE own kr hb1 hb2 hV1s
          go_wp2_with fail
          refine (nums_in (unitsI 10 mkE s4 j).2 S wr.heap.size V1.heap.size 10 10 _ _ BS.out KE.out (by decide) (by omega) (fun j hj => by
            rw [World.cell?_alloc_new]
            have hj' : j = 0 ∨ j = 1 ∨ j = 2 ∨ j = 3 ∨ j = 4 ∨ j = 5 ∨ j = 6 ∨ j = 7 ∨ j = 8 ∨ j = 9 := by omega
            rcases hj' with rfl | rfl | rfl | rfl | rfl | rfl | rfl | rfl | rfl | rfl <;> rfl) (by simp) (by have := HV1S.out; omega) (by have := HV1S.out; omega) (fun j => Nat.le_trans (numsI_shrinks _ j) hlk) (by omega)).mono ?_
          rintro e w3 ⟨rfl, bS3, bE3, kp3⟩
          rw [put10 (numsI_length _ 10)] at bE3
          obtain ⟨u, hu⟩ : ∃ x, mkE (numsI (unitsI 10 mkE s4 j).2 10).1 = x := ⟨_, rfl⟩
          rw [hu] at bE3
          have bE3' : Blk w3 wr.heap.size #[.int .i64 u.id, .int .i64 u.owner, .int .i64 u.kind, .int .i64 u.x, .int .i64 u.y, .int .i64 u.hp, .int .i64 u.does, .int .i64 u.gx, .int .i64 u.gy, .int .i64 u.target] := bE3
          have bK3 := BK.out.kp kp3 (by omega)
          have own3 := own_kp OWN.out kp3 (fun b hb e => by have := EVB.out b hb; omega)
          have kp3' := KR.out.trans kp3 (fun c hc e => by omega)
          obtain ⟨lE, cE, -⟩ := id bE3'
          have hs3 := kp3.size
          obtain ⟨i1, hj0, hj1, hj2, hj3⟩ := info_parts infoEnt
          have hbz : Below w3.heap.size w3 (w3.alloc (.cells #[.int .i64 u.id, .int .i64 u.owner, .int .i64 u.kind, .int .i64 u.x, .int .i64 u.y, .int .i64 u.hp, .int .i64 u.does, .int .i64 u.gx, .int .i64 u.gy, .int .i64 u.target] 83)) := (Below.refl _ _).alloc (Nat.le_refl _) _
          have oB := own_kp own3 (kp_of hbz (fun _ => False)) (fun _ _ x => x)
          have hsz3 := kp3'.size
          obtain ⟨g2, cap, w5, r5, own5, grow5, hat5, lt5⟩ := run_append_lies (P := Try.prog) (w3.alloc (.cells #[.int .i64 u.id, .int .i64 u.owner, .int .i64 u.kind, .int .i64 u.x, .int .i64 u.y, .int .i64 u.hp, .int .i64 u.does, .int .i64 u.gx, .int .i64 u.gy, .int .i64 u.target] 83)) 24 24 w4.heap.size 83 i1 _ 10 80 Try.underlying24 hj0 hj1 hj2 hj3 rfl (by omega) (.slice eva j evc) j (cellsAll (unitsI 10 mkE s4 j).1) oB ⟨w3.heap.size, 0, none⟩ 1 1 (cellsE u) rfl (World.news_of_block (cs := #[.int .i64 u.id, .int .i64 u.owner, .int .i64 u.kind, .int .i64 u.x, .int .i64 u.y, .int .i64 u.hp, .int .i64 u.does, .int .i64 u.gx, .int .i64 u.gy, .int .i64 u.target]) (t := 83) (fr := (0, 0)) (heap_alloc_new w3 _)) (by intro q hq; simp [cellsE] at hq; rcases hq with h | h | h | h | h | h | h | h | h | h <;> rw [h] <;> rfl) (by omega) (by unfold maxLen; omega) (by omega) (by have := hbz.size; omega) (w3.heap.size + 1) (by simp)
          have kg := Kp.grown grow5
          have hKev : (Value.slice eva j evc).ownBlock ≠ some (w.heap.size + 1) := fun e => by have := (EVB.out _ e).1; have := HWS.out; omega
          have hSev : (Value.slice eva j evc).ownBlock ≠ some S := fun e => by have := (EVB.out _ e).1; have := HWS.out; omega
          have bK5 := (bK3.call hbz).kp kg (fun e => hKev e.symm)
          have bS5 := (bS3.call hbz).kp kg (fun e => hSev e.symm)
          obtain ⟨lK5, cK5, fK5⟩ := id bK5
          obtain ⟨lK3, cK3, -⟩ := id bK3
          have kp5 := ((kp3'.then_ hbz).trans kg (fun c hc e => by have := (EVB.out c e.symm).1; omega)).andset ⟨w.heap.size + 1, 5, none⟩ (.slice (some ⟨g2, 0, none⟩) (j + 1) cap) (Or.inr rfl)
          have HUU := Lib.hid hu
          have OWN5 := Lib.hid own5
          have BK5 := Lib.hid bK5
          have BS5 := Lib.hid bS5
          have KP5 := Lib.hid kp5
          clear hj0 hj1 hj2 hj3 hbz oB own5 grow5 hat5 kg own3 bE3 bE3' bK3 bS3 kp3 kp3' bK5 bS5 kp5 hu hKev hSev
          go_wp2_with (at_builtin; refine list_run_append (by rfl) _ _ _ _ (by rfl) (by rfl) (by rfl) (by rfl) r5 ?_)
          go_roundw
          case rel =>
            have g1 : Blk (w5.setCell ⟨w.heap.size + 1, 5, none⟩ (.slice (some ⟨g2, 0, none⟩) (j + 1) cap)) S (inC (unitsI 10 mkE s4 (j + 1)).2) := by
              rw [unitsE_st]
              exact BS5.out.other (by omega)
            have g2' : Blk (w5.setCell ⟨w.heap.size + 1, 5, none⟩ (.slice (some ⟨g2, 0, none⟩) (j + 1) cap)) (w.heap.size + 1) #[.int .i64 t0, .int .i64 t1, .int .i64 t2, .int .i64 t3, .slice fva k fvc, .slice (some ⟨g2, 0, none⟩) (j + 1) cap] := by
              have := BK5.out.store (.slice (some ⟨g2, 0, none⟩) (j + 1) cap) (i := 5) (by simp)
              simpa using this
            have g3 : (w5.setCell ⟨w.heap.size + 1, 5, none⟩ (.slice (some ⟨g2, 0, none⟩) (j + 1) cap)).ownsRow w4.heap.size 83 10 (.slice (some ⟨g2, 0, none⟩) (j + 1) cap) (j + 1) (cellsAll (unitsI 10 mkE s4 (j + 1)).1) := by
              rw [unitsE_succ, HUU.out]
              exact own_kp OWN5.out (Kp.setCell w5 ⟨w.heap.size + 1, 5, none⟩ _) (fun b hb e => by have h1 := (World.ownsRow.lt OWN5.out b hb).1; have h2 : b = w.heap.size + 1 := e; have := HWS.out; omega)
            exact ⟨j + 1, by go_num, by omega, g1, ⟨.slice (some ⟨g2, 0, none⟩) (j + 1) cap, g2', g3⟩, KP5.out⟩
          case measure => simp [intOf]; omega
        · obtain rfl : j = m := by omega
          have krW := KP4.out.trans kr (fun _ _ h => h)
          have hK1 := K1.out.kp krW (fun h => by have := hSw; omega)
          obtain ⟨l1, c1, f1⟩ := id hK1
          obtain ⟨lK, cK, fK⟩ := id bK
          have ownF := own_kp OWN4.out kr (fun b hb h => by have := (HFVB.out b hb).1; omega)
          have HK1 := Lib.hid hK1
          have BS := Lib.hid bS
          have OWN := Lib.hid own
          have OWNF := Lib.hid ownF
          have KR := Lib.hid krW
          have hst : (elderI st).1 = ⟨false, t0, t1, t2, t3, FR, (unitsI 10 mkE s4 j).1⟩ ∧ (elderI st).2 = (unitsI 10 mkE s4 j).2 := by
            obtain ⟨h0, h1, h2, h3, h4⟩ := HT.out
            obtain ⟨h5, h6⟩ := HN.out
            obtain ⟨h7, h8⟩ := HS3.out
            obtain ⟨h9, h10⟩ := HM.out
            unfold elderI
            dsimp only
            rw [h4, h5, h6, Int.toNat_natCast, h7, h8, h9, h10, h0, h1, h2, h3, Int.toNat_natCast]
            exact ⟨rfl, rfl⟩
          have HST := Lib.hid hst
          clear bS bK own kr hK1 hst ownF krW
          go_wp2_with fail
          refine bodyPost_ret (v := .agg #[.int .i64 t0, .int .i64 t1, .int .i64 t2, .int .i64 t3, .slice fva k fvc, .slice eva j evc]) (ret_cell (d := _) Try.results57 rfl (HK1.out.store6 rfl (.int .i64 t0) (.int .i64 t1) (.int .i64 t2) (.int .i64 t3) (.slice fva k fvc) (.slice eva j evc)) Try.underlying26 rfl infoElder) rfl ?_
          rw [HST.out.1, HST.out.2]
          have XK := (((((((Kp.refl (fun b => b = w.heap.size) wr).andset ⟨w.heap.size, 0, none⟩ (.int .i64 t0) rfl).andset ⟨w.heap.size, 1, none⟩ (.int .i64 t1) rfl).andset ⟨w.heap.size, 2, none⟩ (.int .i64 t2) rfl).andset ⟨w.heap.size, 3, none⟩ (.int .i64 t3) rfl).andset ⟨w.heap.size, 4, none⟩ (.slice fva k fvc) rfl).andset ⟨w.heap.size, 5, none⟩ (.slice eva j evc) rfl)
          refine ⟨.slice fva k fvc, .slice eva j evc, rfl, BS.out.kp XK (by omega), ?_, ?_, ?_⟩
          · exact ((kp_of HB.out (fun b => b = S)).trans KR.out (fun c hc h => by rcases h with h | h; exact h; omega)).trans XK (fun c hc h => by omega)
          · show World.ownsRow _ _ _ _ _ FR.length (intCells FR)
            rw [hfl]
            exact own_base (own_kp OWNF.out XK (fun b hb h => by have := (HFVB.out b hb).1; omega)) HB.out.size
          · have e2 : ((unitsI 10 mkE s4 j).1).length = j := unitsI_length _ _ _ _
            show World.ownsRow _ _ _ _ _ ((unitsI 10 mkE s4 j).1).length (cellsAll (unitsI 10 mkE s4 j).1)
            rw [e2]
            exact own_base (own_kp OWN.out XK (fun b hb h => by have := (World.ownsRow.lt OWN.out b hb).1; omega)) (by omega)
end Go.Proofs.Ytlfljlhppigejab
namespace Go.Proofs.Ytlfljlhppigejab
open Go.RowKit

theorem infoUnits : ∃ i, Try.prog.info? 142 = some i ∧ i.zero = some (.agg #[.int .i64 0, .int .i64 0, .int .i64 0, .int .i64 0, .int .i64 0, .int .i64 0, .int .i64 0, .int .i64 0, .int .i64 0, .int .i64 0, .int .i64 0]) ∧ i.size = 11 ∧ i.bytes = 88 :=
  ⟨(Try.prog.info? 142).get (by kernel_rfl), by kernel_rfl, by kernel_rfl, by kernel_rfl, by kernel_rfl⟩
theorem infoNewer : (Try.prog.info? 32).map (·.size) = some 5 := by kernel_rfl
theorem Blk.store5 {w : World} {S : Nat} {c : Array Value} (h : Blk w S c) (hc : c.size = 5) (v0 v1 v2 v3 v4 : Value) :
    Blk (((((w.setCell ⟨S, 0, none⟩ v0).setCell ⟨S, 1, none⟩ v1).setCell ⟨S, 2, none⟩ v2).setCell ⟨S, 3, none⟩ v3).setCell ⟨S, 4, none⟩ v4) S #[v0, v1, v2, v3, v4] := by
  obtain ⟨l⟩ := c
  match l, hc with
  | [a0, a1, a2, a3, a4], _ =>
    have := ((((h.store v0 (i := 0) (by simp)).store v1 (i := 1) (by simp)).store v2 (i := 2) (by simp)).store v3 (i := 3) (by simp)).store v4 (i := 4) (by simp)
    simpa using this

theorem units_st (j : Nat) (mk : List Int → U) (st : St) (k : Nat) : (unitsI j mk st (k + 1)).2 = (numsI (unitsI j mk st k).2 j).2 := rfl
theorem units_ls (j : Nat) (mk : List Int → U) (st : St) (k : Nat) : (unitsI j mk st (k + 1)).1 = (unitsI j mk st k).1 ++ [mk (numsI (unitsI j mk st k).2 j).1] := rfl
theorem units_succ (st : St) (k : Nat) : cellsAllN (unitsI 11 mkN st (k + 1)).1 = cellsAllN (unitsI 11 mkN st k).1 ++ cellsN (mkN (numsI (unitsI 11 mkN st k).2 11).1) := by
  rw [units_ls]
  unfold cellsAllN
  rw [List.flatMap_append]
  simp
set_option maxHeartbeats 12800000 in
set_option maxRecDepth 100000 in
theorem newer_in (st : St) (S : Nat) (w : World) (h : Blk w S (inC st)) (hlen : st.1.length ≤ 1000000) :
    Calls Try.prog 67 #[.pointer (some ⟨S, 0, none⟩)] w fun e w' => ∃ ev, e = .returned (.agg #[.int .i64 (newerI st).1.tick, .int .i64 (newerI st).1.g0, .int .i64 (newerI st).1.g1, .int .i64 (newerI st).1.next, ev]) ∧
      Blk w' S (inC (newerI st).2) ∧ Kp (fun b => b = S) w w' ∧ w'.ownsRow w.heap.size 142 11 ev (newerI st).1.us.length (cellsAllN (newerI st).1.us) := by
  obtain ⟨W, hW⟩ : ∃ W, (w.alloc (.cells #[.int .i64 0, .int .i64 0, .int .i64 0, .int .i64 0, .slice none 0 0] 32)).alloc (.cells #[.int .i64 0, .int .i64 0, .int .i64 0, .int .i64 0, .slice none 0 0] 32) = W := ⟨_, rfl⟩
  have hbW : Below w.heap.size w W := by rw [← hW]; exact ((Below.refl _ _).alloc (Nat.le_refl _) _).alloc (by simp) _
  have k1 : Blk W w.heap.size #[.int .i64 0, .int .i64 0, .int .i64 0, .int .i64 0, .slice none 0 0] := by rw [← hW]; exact (Blk.new w _ _).alloc _
  have k2 : Blk W (w.heap.size + 1) #[.int .i64 0, .int .i64 0, .int .i64 0, .int .i64 0, .slice none 0 0] := by
    rw [← hW]
    have := Blk.new (w.alloc (.cells #[.int .i64 0, .int .i64 0, .int .i64 0, .int .i64 0, .slice none 0 0] 32)) #[.int .i64 0, .int .i64 0, .int .i64 0, .int .i64 0, .slice none 0 0] 32
    simpa using this
  have hWs : W.heap.size = w.heap.size + 2 := by rw [← hW]; simp
  have hSw := h.lt
  have H := Lib.hid (h.call hbW)
  have K1 := Lib.hid k1
  have K2 := Lib.hid k2
  have HB := Lib.hid hbW
  have HWS := Lib.hid hWs
  have hKW := k2.lt
  clear h hbW k1 k2 hWs
  go_enter Try.func67, Try.ntmps67
  go_upto_region 2 with fail
  try rw [hW]
  clear hW
  go_wp2_with fail
  have hb1 : Below W.heap.size W (W.alloc (.cells #[.pointer (some ⟨w.heap.size + 1, 0, none⟩), .pointer (some ⟨w.heap.size + 1, 1, none⟩), .pointer (some ⟨w.heap.size + 1, 2, none⟩), .pointer (some ⟨w.heap.size + 1, 3, none⟩)] 121)) := (Below.refl _ _).alloc (Nat.le_refl _) _
  refine (nums_in st S (w.heap.size + 1) W.heap.size 4 4 _ _ (H.out.call hb1) (K2.out.call hb1) (by decide) (by omega) (fun k hk => by
    rw [World.cell?_alloc_new]
    have hk' : k = 0 ∨ k = 1 ∨ k = 2 ∨ k = 3 := by omega
    rcases hk' with rfl | rfl | rfl | rfl <;> rfl) (by simp) (by omega) (by omega) (fun k => Nat.le_trans (numsI_shrinks st k) hlen) (by omega)).mono ?_
  rintro e w1 ⟨rfl, bS1, bK1, kp1⟩
  rw [put4n (numsI_length st 4)] at bK1
  obtain ⟨t0, ht0⟩ : ∃ x, (numsI st 4).1.getD 0 0 = x := ⟨_, rfl⟩
  obtain ⟨t1, ht1⟩ : ∃ x, (numsI st 4).1.getD 1 0 = x := ⟨_, rfl⟩
  obtain ⟨t2, ht2⟩ : ∃ x, (numsI st 4).1.getD 2 0 = x := ⟨_, rfl⟩
  obtain ⟨t3, ht3⟩ : ∃ x, (numsI st 4).1.getD 3 0 = x := ⟨_, rfl⟩
  rw [ht0, ht1, ht2, ht3] at bK1
  obtain ⟨s1, hs1⟩ : ∃ x, (numsI st 4).2 = x := ⟨_, rfl⟩
  rw [hs1] at bS1
  have hl1 : s1.1.length ≤ 1000000 := by rw [← hs1]; exact Nat.le_trans (numsI_shrinks st 4) hlen
  have kp1' : Kp (fun b => b = S ∨ b = w.heap.size + 1) W w1 := (kp_of hb1 _).trans kp1 (fun _ _ h => h)
  have BS1 := Lib.hid bS1
  have BK1 := Lib.hid bK1
  have KP1 := Lib.hid kp1'
  have HT := Lib.hid (show (numsI st 4).1.getD 0 0 = t0 ∧ (numsI st 4).1.getD 1 0 = t1 ∧ (numsI st 4).1.getD 2 0 = t2 ∧ (numsI st 4).1.getD 3 0 = t3 ∧ (numsI st 4).2 = s1 from ⟨ht0, ht1, ht2, ht3, hs1⟩)
  have hsz1 := kp1'.size
  clear hb1 bS1 bK1 kp1 kp1' ht0 ht1 ht2 ht3 hs1
  go_wp2_with fail
  refine (many_in s1 20 S w1 BS1.out hl1).mono ?_
  rintro e w2 ⟨rfl, bS2, kp2⟩
  have hrg := manyI_range s1 20 (by omega)
  obtain ⟨nI, hnI⟩ : ∃ x, (manyI s1 20).1 = x := ⟨_, rfl⟩
  obtain ⟨s2, hs2⟩ : ∃ x, (manyI s1 20).2 = x := ⟨_, rfl⟩
  have hl2 : s2.1.length ≤ 1000000 := by rw [← hs2]; exact Nat.le_trans (manyI_shrinks s1 20) hl1
  rw [hnI] at hrg ⊢
  rw [hs2] at bS2
  obtain ⟨n, rfl⟩ := Int.eq_ofNat_of_zero_le hrg.1
  have hn20 : n ≤ 20 := by omega
  have HN := Lib.hid (show (manyI s1 20).1 = (n : Int) ∧ (manyI s1 20).2 = s2 from ⟨hnI, hs2⟩)
  have bK2 := BK1.out.kp kp2 (by omega)
  have BS2 := Lib.hid bS2
  have BK2 := Lib.hid bK2
  have KP2 := Lib.hid (KP1.out.trans kp2 (fun _ _ h => Or.inl h))
  have hsz2 := kp2.size
  have hn0 : (0 : Int) ≤ (n : Int) := by omega
  clear bS2 kp2 bK2 hnI hs2 hrg
  go_wp2_with fail
  go_loopw [16] (fun i wr => ∃ k : Nat, i = .int .i64 k ∧ k ≤ n ∧ (Blk wr S (inC (unitsI 11 mkN s2 k).2) ∧ (∃ ev, Blk wr (w.heap.size + 1) #[.int .i64 t0, .int .i64 t1, .int .i64 t2, .int .i64 t3, ev] ∧ wr.ownsRow W.heap.size 142 11 ev k (cellsAllN (unitsI 11 mkN s2 k).1)) ∧ Kp (fun b => b = S ∨ b = w.heap.size + 1) W wr)) (fun i _ => (n - intOf i).toNat)
  case atStart => exact ⟨0, rfl, by omega, BS2.out, ⟨_, BK2.out, World.ownsRow_nil _ _ _ _⟩, KP2.out⟩
  case round =>
    obtain ⟨k, rfl, hk, bS, ⟨ev, bK, own⟩, kr⟩ := hrel
    have hszr := kr.size
    obtain ⟨eva, evc, rfl⟩ := own_slice own
    by_cases hlt : k < n
    · have hki : (0 : Int) ≤ (k : Int) := by omega
      have hkl : (k : Int) < (n : Int) := by omega
      obtain ⟨V1, hV1⟩ : ∃ V, wr.alloc (.cells #[.int .i64 0, .int .i64 0, .int .i64 0, .int .i64 0, .int .i64 0, .int .i64 0, .int .i64 0, .int .i64 0, .int .i64 0, .int .i64 0, .int .i64 0] 142) = V := ⟨_, rfl⟩
      have hb1 : Below wr.heap.size wr V1 := by rw [← hV1]; exact (Below.refl _ _).alloc (Nat.le_refl _) _
      have kE : Blk V1 wr.heap.size #[.int .i64 0, .int .i64 0, .int .i64 0, .int .i64 0, .int .i64 0, .int .i64 0, .int .i64 0, .int .i64 0, .int .i64 0, .int .i64 0, .int .i64 0] := by rw [← hV1]; exact Blk.new wr _ _
      have hV1s : V1.heap.size = wr.heap.size + 1 := by rw [← hV1]; simp
      have hb2 : Below V1.heap.size V1 (V1.alloc (.cells #[.pointer (some ⟨wr.heap.size, 0, none⟩), .pointer (some ⟨wr.heap.size, 1, none⟩), .pointer (some ⟨wr.heap.size, 2, none⟩), .pointer (some ⟨wr.heap.size, 3, none⟩), .pointer (some ⟨wr.heap.size, 4, none⟩), .pointer (some ⟨wr.heap.size, 5, none⟩), .pointer (some ⟨wr.heap.size, 6, none⟩), .pointer (some ⟨wr.heap.size, 7, none⟩), .pointer (some ⟨wr.heap.size, 8, none⟩), .pointer (some ⟨wr.heap.size, 9, none⟩), .pointer (some ⟨wr.heap.size, 10, none⟩)] 121)) := (Below.refl _ _).alloc (Nat.le_refl _) _
      have BS := Lib.hid ((bS.call hb1).call hb2)
      have hSr := bS.lt
      have BK := Lib.hid ((bK.call hb1).call hb2)
      have hKr := bK.lt
      have KE := Lib.hid (kE.call hb2)
      have OWN := Lib.hid (own_kp (own_kp own (kp_of hb1 (fun _ => False)) (fun _ _ x => x)) (kp_of hb2 (fun _ => False)) (fun _ _ x => x))
      have KR := Lib.hid ((kr.then_ hb1).then_ hb2)
      have hlk : (unitsI 11 mkN s2 k).2.1.length ≤ 1000000 := Nat.le_trans (unitsI_shrinks 11 mkN s2 k) hl2
      have EVB := Lib.hid (fun b hb => World.ownsRow.lt own b hb : ∀ b, (Value.slice eva k evc).ownBlock = some b → W.heap.size ≤ b ∧ b < wr.heap.size)
      have HV1S := Lib.hid hV1s
      clear bS bK kE own kr hb1 hb2 hV1s
      go_wp2_with fail
      refine (nums_in (unitsI 11 mkN s2 k).2 S wr.heap.size V1.heap.size 11 11 _ _ BS.out KE.out (by decide) (by omega) (fun j hj => by
        rw [World.cell?_alloc_new]
        have hj' : j = 0 ∨ j = 1 ∨ j = 2 ∨ j = 3 ∨ j = 4 ∨ j = 5 ∨ j = 6 ∨ j = 7 ∨ j = 8 ∨ j = 9 ∨ j = 10 := by omega
        rcases hj' with rfl | rfl | rfl | rfl | rfl | rfl | rfl | rfl | rfl | rfl | rfl <;> rfl) (by simp) (by have := HV1S.out; omega) (by have := HV1S.out; omega) (fun j => Nat.le_trans (numsI_shrinks _ j) hlk) (by omega)).mono ?_
      rintro e w3 ⟨rfl, bS3, bE3, kp3⟩
      rw [put11 (numsI_length _ 11)] at bE3
      obtain ⟨u, hu⟩ : ∃ x, mkN (numsI (unitsI 11 mkN s2 k).2 11).1 = x := ⟨_, rfl⟩
      rw [hu] at bE3
      have bE3' : Blk w3 wr.heap.size #[.int .i64 u.id, .int .i64 u.owner, .int .i64 u.kind, .int .i64 u.x, .int .i64 u.y, .int .i64 u.hp, .int .i64 u.does, .int .i64 u.gx, .int .i64 u.gy, .int .i64 u.target, .int .i64 u.since] := bE3
      have bK3 := BK.out.kp kp3 (by omega)
      have own3 := own_kp OWN.out kp3 (fun b hb e => by have := EVB.out b hb; omega)
      have kp3' := KR.out.trans kp3 (fun c hc e => by omega)
      obtain ⟨lE, cE, -⟩ := id bE3'
      have hs3 := kp3.size
      obtain ⟨i1, hj0, hj1, hj2, hj3⟩ := infoUnits
      have hbz : Below w3.heap.size w3 (w3.alloc (.cells #[.int .i64 u.id, .int .i64 u.owner, .int .i64 u.kind, .int .i64 u.x, .int .i64 u.y, .int .i64 u.hp, .int .i64 u.does, .int .i64 u.gx, .int .i64 u.gy, .int .i64 u.target, .int .i64 u.since] 142)) := (Below.refl _ _).alloc (Nat.le_refl _) _
      have oB := own_kp own3 (kp_of hbz (fun _ => False)) (fun _ _ x => x)
      have hsz3 := kp3'.size
      obtain ⟨g2, cap, w5, r5, own5, grow5, hat5, lt5⟩ := run_append_lies (P := Try.prog) (w3.alloc (.cells #[.int .i64 u.id, .int .i64 u.owner, .int .i64 u.kind, .int .i64 u.x, .int .i64 u.y, .int .i64 u.hp, .int .i64 u.does, .int .i64 u.gx, .int .i64 u.gy, .int .i64 u.target, .int .i64 u.since] 142)) 30 30 W.heap.size 142 i1 _ 11 88 Try.underlying30 hj0 hj1 hj2 hj3 rfl (by omega) (.slice eva k evc) k (cellsAllN (unitsI 11 mkN s2 k).1) oB ⟨w3.heap.size, 0, none⟩ 1 1 (cellsN u) rfl (World.news_of_block (cs := #[.int .i64 u.id, .int .i64 u.owner, .int .i64 u.kind, .int .i64 u.x, .int .i64 u.y, .int .i64 u.hp, .int .i64 u.does, .int .i64 u.gx, .int .i64 u.gy, .int .i64 u.target, .int .i64 u.since]) (t := 142) (fr := (0, 0)) (heap_alloc_new w3 _)) (by intro q hq; simp [cellsN, cellsE] at hq; rcases hq with h | h | h | h | h | h | h | h | h | h | h <;> rw [h] <;> rfl) (by omega) (by unfold maxLen; omega) (by omega) (by have := hbz.size; omega) (w3.heap.size + 1) (by simp)
      have kg := Kp.grown grow5
      have hKev : (Value.slice eva k evc).ownBlock ≠ some (w.heap.size + 1) := fun e => by have := (EVB.out _ e).1; have := HWS.out; omega
      have hSev : (Value.slice eva k evc).ownBlock ≠ some S := fun e => by have := (EVB.out _ e).1; have := HWS.out; omega
      have bK5 := (bK3.call hbz).kp kg (fun e => hKev e.symm)
      have bS5 := (bS3.call hbz).kp kg (fun e => hSev e.symm)
      obtain ⟨lK5, cK5, fK5⟩ := id bK5
      obtain ⟨lK3, cK3, -⟩ := id bK3
      have kp5 := ((kp3'.then_ hbz).trans kg (fun c hc e => by have := (EVB.out c e.symm).1; omega)).andset ⟨w.heap.size + 1, 4, none⟩ (.slice (some ⟨g2, 0, none⟩) (k + 1) cap) (Or.inr rfl)
      have HUU := Lib.hid hu
      have OWN5 := Lib.hid own5
      have BK5 := Lib.hid bK5
      have BS5 := Lib.hid bS5
      have KP5 := Lib.hid kp5
      clear hj0 hj1 hj2 hj3 hbz oB own5 grow5 hat5 kg own3 bE3 bE3' bK3 bS3 kp3 kp3' bK5 bS5 kp5 hu hKev hSev
      go_wp2_with (at_builtin; refine list_run_append (by rfl) _ _ _ _ (by rfl) (by rfl) (by rfl) (by rfl) r5 ?_)
      go_roundw
      case rel =>
        have g1 : Blk (w5.setCell ⟨w.heap.size + 1, 4, none⟩ (.slice (some ⟨g2, 0, none⟩) (k + 1) cap)) S (inC (unitsI 11 mkN s2 (k + 1)).2) := by
          rw [units_st]
          exact BS5.out.other (by omega)
        have g2' : Blk (w5.setCell ⟨w.heap.size + 1, 4, none⟩ (.slice (some ⟨g2, 0, none⟩) (k + 1) cap)) (w.heap.size + 1) #[.int .i64 t0, .int .i64 t1, .int .i64 t2, .int .i64 t3, .slice (some ⟨g2, 0, none⟩) (k + 1) cap] := by
          have := BK5.out.store (.slice (some ⟨g2, 0, none⟩) (k + 1) cap) (i := 4) (by simp)
          simpa using this
        have g3 : (w5.setCell ⟨w.heap.size + 1, 4, none⟩ (.slice (some ⟨g2, 0, none⟩) (k + 1) cap)).ownsRow W.heap.size 142 11 (.slice (some ⟨g2, 0, none⟩) (k + 1) cap) (k + 1) (cellsAllN (unitsI 11 mkN s2 (k + 1)).1) := by
          rw [units_succ, HUU.out]
          exact own_kp OWN5.out (Kp.setCell w5 ⟨w.heap.size + 1, 4, none⟩ _) (fun b hb e => by have h1 := (World.ownsRow.lt OWN5.out b hb).1; have h2 : b = w.heap.size + 1 := e; have := HWS.out; omega)
        exact ⟨k + 1, by go_num, by omega, g1, ⟨.slice (some ⟨g2, 0, none⟩) (k + 1) cap, g2', g3⟩, KP5.out⟩
      case measure => simp [intOf]; omega
    · obtain rfl : k = n := by omega
      have hK1 := K1.out.kp kr (fun h => by have := hSw; omega)
      obtain ⟨l1, c1, f1⟩ := id hK1
      obtain ⟨lK, cK, fK⟩ := id bK
      have HK1 := Lib.hid hK1
      have BS := Lib.hid bS
      have OWN := Lib.hid own
      have KR := Lib.hid kr
      have hst : (newerI st).1 = ⟨true, t0, t1, t2, t3, [], (unitsI 11 mkN s2 k).1⟩ ∧ (newerI st).2 = (unitsI 11 mkN s2 k).2 := by
        obtain ⟨h0, h1, h2, h3, h4⟩ := HT.out
        obtain ⟨h5, h6⟩ := HN.out
        unfold newerI
        dsimp only
        rw [h4, h5, h6, h0, h1, h2, h3]
        exact ⟨rfl, rfl⟩
      have HST := Lib.hid hst
      clear bS bK own kr hK1 hst
      go_wp2_with fail
      refine bodyPost_ret (v := .agg #[.int .i64 t0, .int .i64 t1, .int .i64 t2, .int .i64 t3, .slice eva k evc]) (ret_cell (d := _) Try.results67 rfl (HK1.out.store5 rfl (.int .i64 t0) (.int .i64 t1) (.int .i64 t2) (.int .i64 t3) (.slice eva k evc)) Try.underlying32 rfl infoNewer) rfl ?_
      rw [HST.out.1, HST.out.2]
      have XK := ((((((Kp.refl (fun b => b = w.heap.size) wr).andset ⟨w.heap.size, 0, none⟩ (.int .i64 t0) rfl).andset ⟨w.heap.size, 1, none⟩ (.int .i64 t1) rfl).andset ⟨w.heap.size, 2, none⟩ (.int .i64 t2) rfl).andset ⟨w.heap.size, 3, none⟩ (.int .i64 t3) rfl).andset ⟨w.heap.size, 4, none⟩ (.slice eva k evc) rfl)
      refine ⟨.slice eva k evc, rfl, BS.out.kp XK (by omega), ?_, ?_⟩
      · exact ((kp_of HB.out (fun b => b = S)).trans KR.out (fun c hc h => by rcases h with h | h; exact h; omega)).trans XK (fun c hc h => by omega)
      · have e2 : ((unitsI 11 mkN s2 k).1).length = k := unitsI_length _ _ _ _
        show World.ownsRow _ _ _ _ _ ((unitsI 11 mkN s2 k).1).length (cellsAllN (unitsI 11 mkN s2 k).1)
        rw [e2]
        exact own_base (own_kp OWN.out XK (fun b hb h => by have := (World.ownsRow.lt OWN.out b hb).1; have := HWS.out; omega)) HB.out.size
end Go.Proofs.Ytlfljlhppigejab
