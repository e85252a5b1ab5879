/- Contracts of functions. -/
import Derived.Test.YtjhdkjacfclipaaMt
import Derived.Test.YtjhdkjacfclipaaOk
import Derived.Test.YtjhdkjacfclipaaWn
import Derived.Test.YtjhdkjacfclipaaEng27
import Derived.Test.YtjhdkjacfclipaaSt
import Derived.Test.YtjhdkjacfclipaaProg
import Derived.KernelRfl
import Derived.Test.YtjhdkjacfclipaaCA
import Derived.Test.YtjhdkjacfclipaaCS
set_option linter.unusedVariables false
set_option linter.unusedSimpArgs false
namespace Go.Proofs.Ytjhdkjacfclipaa
open Go.Eng

theorem cl107 : Callable Try.prog 107 := Callable_of Try.func107 (by kernel_rfl) (by kernel_rfl)

set_option maxHeartbeats 2000000 in
set_option maxRecDepth 4000 in
theorem c_swapRange (pool : List (D × D)) (kc : FuncId) (pre A mid B post : List D) (hAB : A.length = B.length) (hel : ∀ x ∈ A ++ B, x.len? = 4 ∧ x.isAgg = true) (hl : (pre ++ A ++ mid ++ B ++ post).length ≤ 1099511627776) : HCallE Try.prog 107 pool [.ref LT 0 0 (pre ++ A ++ mid ++ B ++ post).length, i64 pre.length, i64 ((pre.length + A.length + mid.length : Nat) : Int), i64 A.length, .d (.fn kc [])] [⟨35, LT, (pre ++ A ++ mid ++ B ++ post).map V.d⟩] 1 (fun ys : List D => ys = pre ++ B ++ mid ++ A ++ post) (fun ys : List D => [⟨35, LT, ys.map V.d⟩]) := by
  refine HCallE_of (n := 38) Try.func107 rfl rfl (Nat.le_of_ble_eq_true rfl) (Nat.le_of_ble_eq_true rfl) fun C0 o hT hP => ?_
  refine AC_seq fun K1 hK1 => ?_
  refine AC_region ?_
  refine AL_ev (Ev_assign) rfl ?_
  refine AL_nil ?_
  refine hK1 _ _ _ ?_
  refine AC_block ?_
  refine AC_loopS [1, 2, 3] (Nat × List D) (fun ⟨i, cur⟩ => [(10, i64 i), (0, .ref LT 0 0 (cur).length)]) (fun ⟨i, cur⟩ => [some ⟨⟨35, some (o 0)⟩, LT, (cur).map V.d⟩]) (fun st => A.length - st.1) (fun ⟨i, cur⟩ => (i ≤ A.length ∧ cur = swR pre A mid B post i)) ((0, pre ++ A ++ mid ++ B ++ post)) ?_ ?_ ?_
  · skip
    exact enterS [some 0] rfl rfl (BxTo_some rfl rfl rfl rfl (by first | exact .nil | exact VwL_dd (by first | rfl | simp) | exact VwL_app (by first | rfl | simp) | exact VwL_of (by first | rfl | simp)) BxTo_nil) (SlTo_cons (by first | exact .rd .d | exact Vw_int (by first | rfl | assumption | omega | (simp; done) | (simp; omega)) | exact Vw_c (by first | rfl | (simp; done) | simp_all) | exact .any) (SlTo_cons (Vw_refe rfl (by first | rfl | simp)) (SlTo_cons (by first | exact .rd .d | exact .any) (SlTo_cons (by first | exact .rd .d | exact .any) (SlTo_cons (by first | exact .rd .d | exact .any) SlTo_nil)))))
  · skip
    exact ⟨Nat.zero_le _, by simp [swR]⟩
  rintro ⟨i, cur⟩ ⟨hi, hcur⟩
  show AC _ _ _ _ _ (FS [1, 2, 3] _ [(10, i64 i), (0, .ref LT 0 0 (cur).length)]) [some ⟨⟨35, some (o 0)⟩, LT, (cur).map V.d⟩]
  refine AC_seq fun K2 hK2 => ?_
  refine AC_seq fun K3 hK3 => ?_
  refine AC_region ?_
  refine AL_ev (Ev_move) rfl ?_
  refine AL_ev (Ev_move) rfl ?_
  refine AL_ev (Ev_lss rfl rfl) rfl ?_
  refine AL_nil ?_
  refine hK3 _ _ _ ?_
  refine AC_cond rfl (fun hc1 => ?_) (fun hc1 => ?_)
  · skip
    have hlt : i < A.length := by have := of_decide_eq_true hc1; omega
    obtain ⟨x, hx⟩ : ∃ x, A[i]? = some x := ⟨_, List.getElem?_eq_getElem hlt⟩
    obtain ⟨y, hy⟩ : ∃ y, B[i]? = some y := ⟨_, List.getElem?_eq_getElem (by omega)⟩
    obtain ⟨hx1, hx2⟩ := hel x (List.mem_append_left _ (List.mem_of_getElem? hx))
    obtain ⟨hy1, hy2⟩ := hel y (List.mem_append_right _ (List.mem_of_getElem? hy))
    have hxl : (V.d x).len? = Lay.len LT := hx1
    have hyl : (V.d y).len? = Lay.len LT := hy1
    have hxa : (V.d x).isAgg = true := hx2
    have hya : (V.d y).isAgg = true := hy2
    have hcl : cur.length = (pre ++ A ++ mid ++ B ++ post).length := by rw [hcur]; simp [swR]; omega
    have hgA : cur[pre.length + i]? = some x := by rw [hcur, swR_form hx hy, List.append_assoc, List.cons_append]; exact getL_at _ _ _ (by simp; omega)
    have hgB : cur[pre.length + A.length + mid.length + i]? = some y := by rw [hcur, swR_form hx hy]; exact getL_at _ _ _ (by simp; omega)
    have hesA : (cur.map V.d)[0 + ((pre.length : Int) + ((i : Nat) : Int)).toNat]? = some (.d x) := by rw [show 0 + ((pre.length : Int) + ((i : Nat) : Int)).toNat = pre.length + i by omega, List.getElem?_map, hgA]; rfl
    have hesB : (cur.map V.d)[0 + (((pre.length + A.length + mid.length : Nat) : Int) + ((i : Nat) : Int)).toNat]? = some (.d y) := by rw [show 0 + (((pre.length + A.length + mid.length : Nat) : Int) + ((i : Nat) : Int)).toNat = pre.length + A.length + mid.length + i by omega, List.getElem?_map, hgB]; rfl
    have hesB2 : ((cur.map V.d).set (0 + ((pre.length : Int) + ((i : Nat) : Int)).toNat) (.d y))[0 + (((pre.length + A.length + mid.length : Nat) : Int) + ((i : Nat) : Int)).toNat]? = some (.d y) := by rw [List.getElem?_set_ne (by omega)]; exact hesB
    have hll : (pre ++ A ++ mid ++ B ++ post).length = pre.length + A.length + mid.length + B.length + post.length := by simp; omega
    refine AC_skip ?_
    refine hK2 _ _ _ ?_
    refine AC_seq fun K4 hK4 => ?_
    refine AC_block ?_
    refine AC_draw hT follows [0, 1, 2, 3, 4, 5, 6, 7, 8, 9, 10, 11, 12, 13, 14, 15, 16, 17, 18, 19, 20, 21, 22, 23] (by kernel_rfl) ?_
    refine DT_ev rfl (EA_move) rfl ?_
    refine DT_ev rfl (EA_move) rfl ?_
    refine DT_ev rfl (EA_move) rfl ?_
    first | refine DT_ev rfl (EA_add rfl rfl _ (wrap_id (by first | omega | (simp; omega)) (by first | omega | (simp; omega)))) rfl ?_ | refine DT_ev rfl (EA_add rfl rfl _ rfl) rfl ?_
    refine DT_ev rfl (EA_move) rfl ?_
    refine DT_ev rfl (EA_move) rfl ?_
    refine DT_ev rfl (EA_move) rfl ?_
    first | refine DT_ev rfl (EA_add rfl rfl _ (wrap_id (by first | omega | (simp; omega)) (by first | omega | (simp; omega)))) rfl ?_ | refine DT_ev rfl (EA_add rfl rfl _ rfl) rfl ?_
    refine DT_ev rfl (EA_move) rfl ?_
    refine DT_ev rfl (EA_move) rfl ?_
    refine DT_ev rfl (EA_move) rfl ?_
    first | refine DT_ev rfl (EA_add rfl rfl _ (wrap_id (by first | omega | (simp; omega)) (by first | omega | (simp; omega)))) rfl ?_ | refine DT_ev rfl (EA_add rfl rfl _ rfl) rfl ?_
    first | refine DT_ev rfl (EA_ix_sl rfl rfl te24 ts35 (by omega) (by assumption)) rfl ?_ | refine DT_ev rfl (EA_ix_ref rfl rfl te24 ts35 (by omega) (by first | omega | (simp; omega))) rfl ?_
    first | refine DT_ev rfl (EA_load_ptr rfl rfl rfl hesB2 rfl rfl ts35 ta35 (by first | rfl | assumption | simp) (by intro h; cases h)) rfl ?_ | refine DT_ev rfl (EA_load_ptr rfl rfl rfl hesB rfl rfl ts35 ta35 (by first | rfl | assumption | simp) (by intro h; cases h)) rfl ?_ | refine DT_ev rfl (EA_load_ptr rfl rfl rfl hesA rfl rfl ts35 ta35 (by first | rfl | assumption | simp) (by intro h; cases h)) rfl ?_ | refine DT_ev rfl (EA_load_ptr rfl rfl rfl rfl rfl rfl ts35 ta35 (by first | rfl | assumption | simp) (by intro h; cases h)) rfl ?_ | refine DT_ev rfl (EA_load_rp rfl rfl rfl ts35 ta35 (by first | rfl | assumption | simp) (by intro h; cases h)) rfl ?_
    refine DT_ev rfl (EA_move) rfl ?_
    refine DT_ev rfl (EA_move) rfl ?_
    refine DT_ev rfl (EA_move) rfl ?_
    first | refine DT_ev rfl (EA_add rfl rfl _ (wrap_id (by first | omega | (simp; omega)) (by first | omega | (simp; omega)))) rfl ?_ | refine DT_ev rfl (EA_add rfl rfl _ rfl) rfl ?_
    first | refine DT_ev rfl (EA_ix_sl rfl rfl te24 ts35 (by omega) (by assumption)) rfl ?_ | refine DT_ev rfl (EA_ix_ref rfl rfl te24 ts35 (by omega) (by first | omega | (simp; omega))) rfl ?_
    first | refine DT_ev rfl (EA_load_ptr rfl rfl rfl hesB2 rfl rfl ts35 ta35 (by first | rfl | assumption | simp) (by intro h; cases h)) rfl ?_ | refine DT_ev rfl (EA_load_ptr rfl rfl rfl hesB rfl rfl ts35 ta35 (by first | rfl | assumption | simp) (by intro h; cases h)) rfl ?_ | refine DT_ev rfl (EA_load_ptr rfl rfl rfl hesA rfl rfl ts35 ta35 (by first | rfl | assumption | simp) (by intro h; cases h)) rfl ?_ | refine DT_ev rfl (EA_load_ptr rfl rfl rfl rfl rfl rfl ts35 ta35 (by first | rfl | assumption | simp) (by intro h; cases h)) rfl ?_ | refine DT_ev rfl (EA_load_rp rfl rfl rfl ts35 ta35 (by first | rfl | assumption | simp) (by intro h; cases h)) rfl ?_
    first | refine DT_ev rfl (EA_ix_sl rfl rfl te24 ts35 (by omega) (by assumption)) rfl ?_ | refine DT_ev rfl (EA_ix_ref rfl rfl te24 ts35 (by omega) (by first | omega | (simp; omega))) rfl ?_
    first | refine DT_store rfl rfl (nf rfl) rfl rfl rfl rfl rfl rfl (by first | rfl | assumption | simp [Lay.len, Lay.lens]) ts35 rfl rfl ?_ | refine DT_store rfl rfl (nf rfl) rfl rfl rfl hesA rfl rfl (by first | rfl | assumption | simp [Lay.len, Lay.lens]) ts35 rfl rfl ?_ | refine DT_store rfl rfl (nf rfl) rfl rfl rfl hesB rfl rfl (by first | rfl | assumption | simp [Lay.len, Lay.lens]) ts35 rfl rfl ?_ | refine DT_store rfl rfl (nf rfl) rfl rfl rfl hesB2 rfl rfl (by first | rfl | assumption | simp [Lay.len, Lay.lens]) ts35 rfl rfl ?_
    first | refine DT_ev rfl (EA_ix_sl rfl rfl te24 ts35 (by omega) (by assumption)) rfl ?_ | refine DT_ev rfl (EA_ix_ref rfl rfl te24 ts35 (by omega) (by first | omega | (simp; omega))) rfl ?_
    first | refine DT_store rfl rfl (nf rfl) rfl rfl rfl rfl rfl rfl (by first | rfl | assumption | simp [Lay.len, Lay.lens]) ts35 rfl rfl ?_ | refine DT_store rfl rfl (nf rfl) rfl rfl rfl hesA rfl rfl (by first | rfl | assumption | simp [Lay.len, Lay.lens]) ts35 rfl rfl ?_ | refine DT_store rfl rfl (nf rfl) rfl rfl rfl hesB rfl rfl (by first | rfl | assumption | simp [Lay.len, Lay.lens]) ts35 rfl rfl ?_ | refine DT_store rfl rfl (nf rfl) rfl rfl rfl hesB2 rfl rfl (by first | rfl | assumption | simp [Lay.len, Lay.lens]) ts35 rfl rfl ?_
    refine DTi.nil ?_
    refine hK4 _ _ _ ?_
    refine AC_region ?_
    refine AL_ev (Ev_move) rfl ?_
    first | refine AL_ev (Ev_add rfl rfl _ (wrap_id (by first | omega | (simp; omega)) (by first | omega | (simp; omega)))) rfl ?_ | refine AL_ev (Ev_add rfl rfl _ rfl) rfl ?_
    refine AL_ev (Ev_assign) rfl ?_
    refine AL_nil ?_
    refine closeS (i + 1, (cur.set (pre.length + i) y).set (pre.length + A.length + mid.length + i) x) [some 0] rfl rfl (by show A.length - (i + 1) < A.length - i; omega) ?_ (BxTo_some rfl rfl rfl rfl (by first | exact VwL_app (by rw [show 0 + ((pre.length : Int) + ((i : Nat) : Int)).toNat = pre.length + i by omega, show 0 + (((pre.length + A.length + mid.length : Nat) : Int) + ((i : Nat) : Int)).toNat = pre.length + A.length + mid.length + i by omega]; simp [List.map_set]) | exact VwL_dd (by rw [show 0 + ((pre.length : Int) + ((i : Nat) : Int)).toNat = pre.length + i by omega, show 0 + (((pre.length + A.length + mid.length : Nat) : Int) + ((i : Nat) : Int)).toNat = pre.length + A.length + mid.length + i by omega]; simp [List.map_set]) | exact VwL_of (by rw [show 0 + ((pre.length : Int) + ((i : Nat) : Int)).toNat = pre.length + i by omega, show 0 + (((pre.length + A.length + mid.length : Nat) : Int) + ((i : Nat) : Int)).toNat = pre.length + A.length + mid.length + i by omega]; simp [List.map_set])) BxTo_nil) (SlTo_cons (by first | exact .rd .d | exact Vw_int (by first | rfl | assumption | omega | (simp; done) | (simp; omega)) | exact Vw_c (by first | rfl | (simp; done) | simp_all) | exact .any) (SlTo_cons (Vw_refe rfl (by first | rfl | simp | (simp; omega))) (SlTo_cons (by first | exact .rd .d | exact .any) (SlTo_cons (by first | exact .rd .d | exact .any) (SlTo_cons (by first | exact .rd .d | exact .any) SlTo_nil)))))
    exact ⟨by omega, by rw [hcur, swR_form hx hy, swapL_at _ _ _ _ _ (by simp; omega) (by simp; omega), swR_step hx hy]⟩
  · skip
    have hin : i = A.length := by have := of_decide_eq_false hc1; omega
    subst hin
    refine AC_exit ?_
    exact rete_ok (cur) (by rw [hcur]; unfold swR; rw [List.take_length, List.drop_length, hAB, List.take_length, List.drop_length]; simp) [0] (CExt.refl _) rfl rfl rfl (BxF_stay rfl rfl rfl rfl rfl (VxL_d _) rfl BxF_nil) (Nat.le_refl _)

set_option maxHeartbeats 4000000 in
set_option maxRecDepth 4000 in
theorem c_insertionSort (pool : List (D × D)) (pre A post : List TD) (hel : ∀ p ∈ A, PL pool p) (hl : (pre ++ A ++ post).length ≤ 1099511627776) : HCallE Try.prog 94 pool [.ref LT 0 0 (dsP (pre ++ A ++ post)).length, i64 pre.length, i64 ((pre.length : Int) + A.length), .d (.fn 43 [])] [⟨35, LT, (dsP (pre ++ A ++ post)).map V.d⟩] 1 (fun ys : List TD => ∃ A' : List TD, ys = pre ++ A' ++ post ∧ A'.Perm A ∧ SrtP A') (fun ys : List TD => [⟨35, LT, (dsP ys).map V.d⟩]) := by
  have hll : (pre ++ A ++ post).length = pre.length + A.length + post.length := by simp; omega
  refine HCallE_of (n := 53) Try.func94 rfl rfl (Nat.le_of_ble_eq_true rfl) (Nat.le_of_ble_eq_true rfl) fun C0 o hT hP => ?_
  refine AC_seq fun K1 hK1 => ?_
  refine AC_region ?_
  refine AL_ev (Ev_move) rfl ?_
  first | refine AL_ev (Ev_add rfl rfl _ (wrap_id (by first | omega | (simp; omega)) (by first | omega | (simp; omega)))) rfl ?_ | refine AL_ev (Ev_add rfl rfl _ rfl) rfl ?_
  refine AL_ev (Ev_assign) rfl ?_
  refine AL_nil ?_
  refine hK1 _ _ _ ?_
  refine AC_block ?_
  refine AC_loopS [1, 2, 3] (Nat × List TD) (fun ⟨k, cur⟩ => [(8, i64 ((pre.length : Int) + ((k : Nat) : Int))), (0, .ref LT 0 0 (dsP cur).length)]) (fun ⟨k, cur⟩ => [some ⟨⟨35, some (o 0)⟩, LT, (dsP cur).map V.d⟩]) (fun st => A.length - st.1) (fun ⟨k, cur⟩ => (1 ≤ k ∧ (k ≤ A.length ∨ k = 1) ∧ ∃ S : List TD, cur = pre ++ S ++ A.drop k ++ post ∧ S.Perm (A.take k) ∧ SrtP S)) ((1, pre ++ A ++ post)) ?_ ?_ ?_
  · skip
    exact enterS [some 0] rfl rfl (BxTo_some rfl rfl rfl rfl (by first | exact .nil | exact VwL_dd (by first | rfl | simp) | exact VwL_app (by first | rfl | simp) | exact VwL_of (by first | rfl | simp)) BxTo_nil) (SlTo_cons (by first | exact .rd .d | exact Vw_int (by first | rfl | assumption | omega | (simp; done) | (simp; omega)) | exact Vw_c (by first | rfl | (simp; done) | simp_all) | exact .any) (SlTo_cons (Vw_refe rfl (by first | rfl | simp)) (SlTo_cons (by first | exact .rd .d | exact .any) (SlTo_cons (by first | exact .rd .d | exact .any) (SlTo_cons (by first | exact .rd .d | exact .any) SlTo_nil)))))
  · skip
    exact ⟨Nat.le_refl _, .inr rfl, A.take 1, by cases A <;> simp, .refl _, take_one_srt A⟩
  rintro ⟨k, cur⟩ ⟨hk1, hk2, S, hcur, hperm, hsrt⟩
  show AC _ _ _ _ _ (FS [1, 2, 3] _ [(8, i64 ((pre.length : Int) + ((k : Nat) : Int))), (0, .ref LT 0 0 (dsP cur).length)]) [some ⟨⟨35, some (o 0)⟩, LT, (dsP cur).map V.d⟩]
  refine AC_seq fun K2 hK2 => ?_
  refine AC_seq fun K3 hK3 => ?_
  refine AC_region ?_
  refine AL_ev (Ev_move) rfl ?_
  refine AL_ev (Ev_move) rfl ?_
  refine AL_ev (Ev_lss rfl rfl) rfl ?_
  refine AL_nil ?_
  refine hK3 _ _ _ ?_
  refine AC_cond rfl (fun hc1 => ?_) (fun hc1 => ?_)
  · skip
    have hkA : k < A.length := by have := of_decide_eq_true hc1; omega
    obtain ⟨x, hx⟩ : ∃ x, A[k]? = some x := ⟨_, List.getElem?_eq_getElem hkA⟩
    have hdrx := drop_get hx
    have hpx := hel x (List.mem_of_getElem? hx)
    have hxl : (V.d x.2).len? = Lay.len LT := hpx.len
    have hxa : (V.d x.2).isAgg = true := hpx.ag
    have hSl : S.length = k := by rw [hperm.length_eq, List.length_take]; omega
    have hcl : cur.length = (pre ++ A ++ post).length := by rw [hcur, List.length_append, List.length_append, List.length_append, hSl, List.length_drop]; omega
    refine AC_skip ?_
    refine hK2 _ _ _ ?_
    refine AC_seq fun K4 hK4 => ?_
    refine AC_block ?_
    refine AC_seq fun K5 hK5 => ?_
    refine AC_region ?_
    refine AL_ev (Ev_move) rfl ?_
    refine AL_ev (Ev_assign) rfl ?_
    refine AL_nil ?_
    refine hK5 _ _ _ ?_
    refine AC_block ?_
    refine AC_loopS [1, 2, 3, 8] (Nat × List TD) (fun ⟨m, cur2⟩ => [(9, i64 ((pre.length : Int) + ((m : Nat) : Int))), (0, .ref LT 0 0 (dsP cur2).length)]) (fun ⟨m, cur2⟩ => [some ⟨⟨35, some (o 0)⟩, LT, (dsP cur2).map V.d⟩]) (fun st => st.1) (fun ⟨m, cur2⟩ => (∃ S1 S2 : List TD, S = S1 ++ S2 ∧ S1.length = m ∧ cur2 = pre ++ S1 ++ x :: S2 ++ A.drop (k + 1) ++ post ∧ ∀ p ∈ S2, cmpT x.1 p.1 < 0)) ((k, cur)) ?_ ?_ ?_
    · skip
      exact enterS [some 0] rfl rfl (BxTo_some rfl rfl rfl rfl (by first | exact .nil | exact VwL_dd (by first | rfl | simp) | exact VwL_app (by first | rfl | simp) | exact VwL_of (by first | rfl | simp)) BxTo_nil) (SlTo_cons (by first | exact .rd .d | exact Vw_int (by first | rfl | assumption | omega | (simp; done) | (simp; omega)) | exact Vw_c (by first | rfl | (simp; done) | simp_all) | exact .any) (SlTo_cons (Vw_refe rfl (by first | rfl | simp)) (SlTo_cons (by first | exact .rd .d | exact .any) (SlTo_cons (by first | exact .rd .d | exact .any) (SlTo_cons (by first | exact .rd .d | exact .any) (SlTo_cons (by first | exact .rd .d | exact .any) SlTo_nil))))))
    · skip
      exact ⟨S, [], by simp, by rw [hSl], by rw [hcur, hdrx]; simp, by simp⟩
    rintro ⟨m, cur2⟩ ⟨S1, S2, hSS, hm, hcur2, h2⟩
    show AC _ _ _ _ _ (FS [1, 2, 3, 8] _ [(9, i64 ((pre.length : Int) + ((m : Nat) : Int))), (0, .ref LT 0 0 (dsP cur2).length)]) [some ⟨⟨35, some (o 0)⟩, LT, (dsP cur2).map V.d⟩]
    have hcl2 : cur2.length = cur.length := by rw [hcur2, hcur, hdrx, hSS]; simp; omega
    have hrS : ∀ p ∈ S1 ++ S2, Rt p.1 := fun p hp => (hel p (List.mem_of_mem_take (hperm.mem_iff.1 (hSS ▸ hp)))).rt
    have hpn : (S1 ++ x :: S2).Perm (A.take (k + 1)) := by
      rw [take_succ_get hx]
      exact List.perm_middle.trans ((List.Perm.cons x (hSS ▸ hperm)).trans (List.perm_append_singleton x _).symm)
    refine AC_seq fun K6 hK6 => ?_
    refine AC_seq fun K7 hK7 => ?_
    refine AC_draw hT follows [0, 1, 2, 3, 4, 5, 6, 7, 8, 9, 10, 11, 12, 13, 14, 15, 16] (by kernel_rfl) ?_
    refine DT_ev rfl (EA_move) rfl ?_
    refine DT_ev rfl (EA_move) rfl ?_
    refine DT_ev rfl (EA_gtr rfl rfl) rfl ?_
    refine DT_ev rfl (EA_move) rfl ?_
    refine DT_bool 21 rfl (fun hg2 => ?_) (fun hg2 => ?_)
    · skip
      have hm0 : 0 < m := by have := of_decide_eq_true hg2; omega
      obtain ⟨S0, s, hS0⟩ : ∃ S0 s, S1 = S0 ++ [s] := by
        rcases List.eq_nil_or_concat S1 with e | ⟨S0, s, e⟩
        · rw [e] at hm; simp at hm; omega
        · exact ⟨S0, s, by simpa using e⟩
      have hS0l : S0.length + 1 = m := by rw [hS0] at hm; simpa using hm
      have hps : PL pool s := hel s (List.mem_of_mem_take (hperm.mem_iff.1 (by rw [hSS, hS0]; simp)))
      have hsl : (V.d s.2).len? = Lay.len LT := hps.len
      have hsa : (V.d s.2).isAgg = true := hps.ag
      have hform : cur2 = (pre ++ S0) ++ s :: [] ++ x :: (S2 ++ A.drop (k + 1) ++ post) := by rw [hcur2, hS0]; simp
      have hgX : cur2[pre.length + m]? = some x := by rw [hform]; exact getL_at _ _ _ (by simp; omega)
      have hgS : cur2[pre.length + m - 1]? = some s := by rw [hform, List.append_assoc, List.cons_append]; exact getL_at _ _ _ (by simp; omega)
      have hmk : m ≤ k := by rw [hSS] at hSl; simp at hSl; omega
      have hesX : ((dsP cur2).map V.d)[0 + ((pre.length : Int) + ((m : Nat) : Int)).toNat]? = some (.d x.2) := by rw [show 0 + ((pre.length : Int) + ((m : Nat) : Int)).toNat = pre.length + m by omega]; exact dsP_get hgX
      have hesS : ((dsP cur2).map V.d)[0 + ((pre.length : Int) + ((m : Nat) : Int) - 1).toNat]? = some (.d s.2) := by rw [show 0 + ((pre.length : Int) + ((m : Nat) : Int) - 1).toNat = pre.length + m - 1 by omega]; exact dsP_get hgS
      have hesX2 : (((dsP cur2).map V.d).set (0 + ((pre.length : Int) + ((m : Nat) : Int)).toNat) (.d s.2))[0 + ((pre.length : Int) + ((m : Nat) : Int) - 1).toNat]? = some (.d s.2) := by rw [List.getElem?_set_ne (by omega)]; exact hesS
      refine DT_evt rfl rfl rfl rfl (EA_move) rfl ?_
      refine DT_evt rfl rfl rfl rfl (EA_move) rfl ?_
      refine DT_evt rfl rfl rfl rfl (EA_move) rfl ?_
      first | refine DT_evt rfl rfl rfl rfl (EA_ix_sl rfl rfl te24 ts35 (by omega) (by assumption)) rfl ?_ | refine DT_evt rfl rfl rfl rfl (EA_ix_ref rfl rfl te24 ts35 (by omega) (by first | omega | (simp; omega))) rfl ?_
      first | refine DT_evt rfl rfl rfl rfl (EA_load_ptr rfl rfl rfl hesX2 rfl rfl ts35 ta35 (by first | rfl | assumption | simp) (by intro h; cases h)) rfl ?_ | refine DT_evt rfl rfl rfl rfl (EA_load_ptr rfl rfl rfl hesS rfl rfl ts35 ta35 (by first | rfl | assumption | simp) (by intro h; cases h)) rfl ?_ | refine DT_evt rfl rfl rfl rfl (EA_load_ptr rfl rfl rfl hesX rfl rfl ts35 ta35 (by first | rfl | assumption | simp) (by intro h; cases h)) rfl ?_ | refine DT_evt rfl rfl rfl rfl (EA_load_ptr rfl rfl rfl rfl rfl rfl ts35 ta35 (by first | rfl | assumption | simp) (by intro h; cases h)) rfl ?_ | refine DT_evt rfl rfl rfl rfl (EA_load_rp rfl rfl rfl ts35 ta35 (by first | rfl | assumption | simp) (by intro h; cases h)) rfl ?_
      refine DT_evt rfl rfl rfl rfl (EA_move) rfl ?_
      refine DT_evt rfl rfl rfl rfl (EA_move) rfl ?_
      first | refine DT_evt rfl rfl rfl rfl (EA_sub rfl rfl _ (wrap_id (by first | omega | (simp; omega)) (by first | omega | (simp; omega)))) rfl ?_ | refine DT_evt rfl rfl rfl rfl (EA_sub rfl rfl _ rfl) rfl ?_
      first | refine DT_evt rfl rfl rfl rfl (EA_ix_sl rfl rfl te24 ts35 (by omega) (by assumption)) rfl ?_ | refine DT_evt rfl rfl rfl rfl (EA_ix_ref rfl rfl te24 ts35 (by omega) (by first | omega | (simp; omega))) rfl ?_
      first | refine DT_evt rfl rfl rfl rfl (EA_load_ptr rfl rfl rfl hesX2 rfl rfl ts35 ta35 (by first | rfl | assumption | simp) (by intro h; cases h)) rfl ?_ | refine DT_evt rfl rfl rfl rfl (EA_load_ptr rfl rfl rfl hesS rfl rfl ts35 ta35 (by first | rfl | assumption | simp) (by intro h; cases h)) rfl ?_ | refine DT_evt rfl rfl rfl rfl (EA_load_ptr rfl rfl rfl hesX rfl rfl ts35 ta35 (by first | rfl | assumption | simp) (by intro h; cases h)) rfl ?_ | refine DT_evt rfl rfl rfl rfl (EA_load_ptr rfl rfl rfl rfl rfl rfl ts35 ta35 (by first | rfl | assumption | simp) (by intro h; cases h)) rfl ?_ | refine DT_evt rfl rfl rfl rfl (EA_load_rp rfl rfl rfl ts35 ta35 (by first | rfl | assumption | simp) (by intro h; cases h)) rfl ?_
      refine DT_ccallt hT hP rfl rfl rfl rfl rfl cl43 (c_compare x.1 s.1 rfl) (.cons hpx.v (.cons hps.v .nil)) rfl (by kernel_rfl) ?_
      refine DT_evt rfl rfl rfl rfl (EA_lss rfl rfl) rfl ?_
      refine DT_ev rfl (EA_pick rfl) rfl ?_
      refine DTi.nil ?_
      refine hK7 _ _ _ ?_
      refine AC_cond rfl (fun hc3 => ?_) (fun hc3 => ?_)
      · skip
        refine AC_skip ?_
        refine hK6 _ _ _ ?_
        refine AC_seq fun K8 hK8 => ?_
        refine AC_block ?_
        refine AC_draw hT follows [0, 1, 2, 3, 4, 5, 6, 7, 8, 9, 10, 11, 12, 13, 14, 15, 16, 17] (by kernel_rfl) ?_
        refine DT_ev rfl (EA_move) rfl ?_
        refine DT_ev rfl (EA_move) rfl ?_
        refine DT_ev rfl (EA_move) rfl ?_
        refine DT_ev rfl (EA_move) rfl ?_
        first | refine DT_ev rfl (EA_sub rfl rfl _ (wrap_id (by first | omega | (simp; omega)) (by first | omega | (simp; omega)))) rfl ?_ | refine DT_ev rfl (EA_sub rfl rfl _ rfl) rfl ?_
        refine DT_ev rfl (EA_move) rfl ?_
        refine DT_ev rfl (EA_move) rfl ?_
        first | refine DT_ev rfl (EA_sub rfl rfl _ (wrap_id (by first | omega | (simp; omega)) (by first | omega | (simp; omega)))) rfl ?_ | refine DT_ev rfl (EA_sub rfl rfl _ rfl) rfl ?_
        first | refine DT_ev rfl (EA_ix_sl rfl rfl te24 ts35 (by omega) (by assumption)) rfl ?_ | refine DT_ev rfl (EA_ix_ref rfl rfl te24 ts35 (by omega) (by first | omega | (simp; omega))) rfl ?_
        first | refine DT_ev rfl (EA_load_ptr rfl rfl rfl hesX2 rfl rfl ts35 ta35 (by first | rfl | assumption | simp) (by intro h; cases h)) rfl ?_ | refine DT_ev rfl (EA_load_ptr rfl rfl rfl hesS rfl rfl ts35 ta35 (by first | rfl | assumption | simp) (by intro h; cases h)) rfl ?_ | refine DT_ev rfl (EA_load_ptr rfl rfl rfl hesX rfl rfl ts35 ta35 (by first | rfl | assumption | simp) (by intro h; cases h)) rfl ?_ | refine DT_ev rfl (EA_load_ptr rfl rfl rfl rfl rfl rfl ts35 ta35 (by first | rfl | assumption | simp) (by intro h; cases h)) rfl ?_ | refine DT_ev rfl (EA_load_rp rfl rfl rfl ts35 ta35 (by first | rfl | assumption | simp) (by intro h; cases h)) rfl ?_
        refine DT_ev rfl (EA_move) rfl ?_
        refine DT_ev rfl (EA_move) rfl ?_
        first | refine DT_ev rfl (EA_ix_sl rfl rfl te24 ts35 (by omega) (by assumption)) rfl ?_ | refine DT_ev rfl (EA_ix_ref rfl rfl te24 ts35 (by omega) (by first | omega | (simp; omega))) rfl ?_
        first | refine DT_ev rfl (EA_load_ptr rfl rfl rfl hesX2 rfl rfl ts35 ta35 (by first | rfl | assumption | simp) (by intro h; cases h)) rfl ?_ | refine DT_ev rfl (EA_load_ptr rfl rfl rfl hesS rfl rfl ts35 ta35 (by first | rfl | assumption | simp) (by intro h; cases h)) rfl ?_ | refine DT_ev rfl (EA_load_ptr rfl rfl rfl hesX rfl rfl ts35 ta35 (by first | rfl | assumption | simp) (by intro h; cases h)) rfl ?_ | refine DT_ev rfl (EA_load_ptr rfl rfl rfl rfl rfl rfl ts35 ta35 (by first | rfl | assumption | simp) (by intro h; cases h)) rfl ?_ | refine DT_ev rfl (EA_load_rp rfl rfl rfl ts35 ta35 (by first | rfl | assumption | simp) (by intro h; cases h)) rfl ?_
        first | refine DT_ev rfl (EA_ix_sl rfl rfl te24 ts35 (by omega) (by assumption)) rfl ?_ | refine DT_ev rfl (EA_ix_ref rfl rfl te24 ts35 (by omega) (by first | omega | (simp; omega))) rfl ?_
        first | refine DT_store rfl rfl (nf rfl) rfl rfl rfl rfl rfl rfl (by first | rfl | assumption | simp [Lay.len, Lay.lens]) ts35 rfl rfl ?_ | refine DT_store rfl rfl (nf rfl) rfl rfl rfl hesX rfl rfl (by first | rfl | assumption | simp [Lay.len, Lay.lens]) ts35 rfl rfl ?_ | refine DT_store rfl rfl (nf rfl) rfl rfl rfl hesS rfl rfl (by first | rfl | assumption | simp [Lay.len, Lay.lens]) ts35 rfl rfl ?_ | refine DT_store rfl rfl (nf rfl) rfl rfl rfl hesX2 rfl rfl (by first | rfl | assumption | simp [Lay.len, Lay.lens]) ts35 rfl rfl ?_
        first | refine DT_ev rfl (EA_ix_sl rfl rfl te24 ts35 (by omega) (by assumption)) rfl ?_ | refine DT_ev rfl (EA_ix_ref rfl rfl te24 ts35 (by omega) (by first | omega | (simp; omega))) rfl ?_
        first | refine DT_store rfl rfl (nf rfl) rfl rfl rfl rfl rfl rfl (by first | rfl | assumption | simp [Lay.len, Lay.lens]) ts35 rfl rfl ?_ | refine DT_store rfl rfl (nf rfl) rfl rfl rfl hesX rfl rfl (by first | rfl | assumption | simp [Lay.len, Lay.lens]) ts35 rfl rfl ?_ | refine DT_store rfl rfl (nf rfl) rfl rfl rfl hesS rfl rfl (by first | rfl | assumption | simp [Lay.len, Lay.lens]) ts35 rfl rfl ?_ | refine DT_store rfl rfl (nf rfl) rfl rfl rfl hesX2 rfl rfl (by first | rfl | assumption | simp [Lay.len, Lay.lens]) ts35 rfl rfl ?_
        refine DTi.nil ?_
        refine hK8 _ _ _ ?_
        refine AC_region ?_
        refine AL_ev (Ev_move) rfl ?_
        first | refine AL_ev (Ev_sub rfl rfl _ (wrap_id (by first | omega | (simp; omega)) (by first | omega | (simp; omega)))) rfl ?_ | refine AL_ev (Ev_sub rfl rfl _ rfl) rfl ?_
        refine AL_ev (Ev_assign) rfl ?_
        refine AL_nil ?_
        refine closeS (m - 1, (cur2.set (pre.length + m) s).set (pre.length + m - 1) x) [some 0] rfl rfl (by show m - 1 < m; omega) ?_ (BxTo_some rfl rfl rfl rfl (by first | exact VwL_app (by rw [show 0 + ((pre.length : Int) + ((m : Nat) : Int)).toNat = pre.length + m by omega, show 0 + ((pre.length : Int) + ((m : Nat) : Int) - 1).toNat = pre.length + m - 1 by omega]; exact dsP_set2 _ _ _ _ _) | exact VwL_dd (by rw [show 0 + ((pre.length : Int) + ((m : Nat) : Int)).toNat = pre.length + m by omega, show 0 + ((pre.length : Int) + ((m : Nat) : Int) - 1).toNat = pre.length + m - 1 by omega]; exact dsP_set2 _ _ _ _ _) | exact VwL_of (by rw [show 0 + ((pre.length : Int) + ((m : Nat) : Int)).toNat = pre.length + m by omega, show 0 + ((pre.length : Int) + ((m : Nat) : Int) - 1).toNat = pre.length + m - 1 by omega]; exact dsP_set2 _ _ _ _ _)) BxTo_nil) (SlTo_cons (by first | exact .rd .d | exact Vw_int (by first | rfl | assumption | omega | (simp; done) | (simp; omega)) | exact Vw_c (by first | rfl | (simp; done) | simp_all) | exact .any) (SlTo_cons (Vw_refe rfl (by first | rfl | (simp [dsP_length]; done))) (SlTo_cons (by first | exact .rd .d | exact .any) (SlTo_cons (by first | exact .rd .d | exact .any) (SlTo_cons (by first | exact .rd .d | exact .any) (SlTo_cons (by first | exact .rd .d | exact .any) SlTo_nil))))))
        refine ⟨S0, s :: S2, by rw [hSS, hS0]; simp, by rw [hS0] at hm; simp at hm; omega, ?_, fun p hp => ?_⟩
        · rw [hcur2, hS0, show (pre ++ (S0 ++ [s]) ++ x :: S2 ++ A.drop (k + 1) ++ post) = (pre ++ S0) ++ s :: [] ++ x :: (S2 ++ A.drop (k + 1) ++ post) by simp, swapR_at _ _ _ _ _ (by rw [hS0] at hm; simp at hm ⊢; omega) (by rw [hS0] at hm; simp at hm ⊢; omega)]
          simp
        · rcases List.mem_cons.1 hp with rfl | hp
          · exact of_decide_eq_true hc3
          · exact h2 p hp
      · skip
        have hlast : ∀ s2, S1.getLast? = some s2 → 0 ≤ cmpT x.1 s2.1 := by
          intro s2 h
          rw [hS0] at h
          simp at h
          subst h
          have := of_decide_eq_false hc3
          omega
        refine AC_exit ?_
        refine hK4 _ _ _ ?_
        refine AC_region ?_
        refine AL_ev (Ev_move) rfl ?_
        first | refine AL_ev (Ev_add rfl rfl _ (wrap_id (by first | omega | (simp; omega)) (by first | omega | (simp; omega)))) rfl ?_ | refine AL_ev (Ev_add rfl rfl _ rfl) rfl ?_
        refine AL_ev (Ev_assign) rfl ?_
        refine AL_nil ?_
        refine closeS (k + 1, cur2) [some 0] rfl rfl (by show A.length - (k + 1) < A.length - k; omega) ?_ (BxTo_some rfl rfl rfl rfl (by first | exact VwL_app (by first | rfl | simp [ints, strs] | simp [ints, strs, injs_map]) | exact VwL_dd (by first | rfl | simp [ints, strs] | simp [ints, strs, injs_map]) | exact VwL_of (by first | rfl | simp [ints, strs] | simp [ints, strs, injs_map])) BxTo_nil) (SlTo_cons (by first | exact .rd .d | exact Vw_int (by first | rfl | assumption | omega | (simp; done) | (simp; omega)) | exact Vw_c (by first | rfl | (simp; done) | simp_all) | exact .any) (SlTo_cons (Vw_refe rfl (by first | rfl | (rw [dsP_length, dsP_length]; omega))) (SlTo_cons (by first | exact .rd .d | exact .any) (SlTo_cons (by first | exact .rd .d | exact .any) (SlTo_cons (by first | exact .rd .d | exact .any) SlTo_nil)))))
        exact ⟨by omega, .inl (by omega), S1 ++ x :: S2, by rw [hcur2]; simp, hpn, srt_put hpx.rt hrS (hSS ▸ hsrt) h2 hlast⟩
    · skip
      have hm0 : m = 0 := by have := of_decide_eq_false hg2; omega
      have hlast : ∀ s, S1.getLast? = some s → 0 ≤ cmpT x.1 s.1 := by
        have e : S1 = [] := List.eq_nil_of_length_eq_zero (by omega)
        subst e; intro s h; simp at h
      refine DT_f rfl rfl rfl rfl rfl ?_
      refine DT_f rfl rfl rfl rfl rfl ?_
      refine DT_f rfl rfl rfl rfl rfl ?_
      refine DT_f rfl rfl rfl rfl rfl ?_
      refine DT_f rfl rfl rfl rfl rfl ?_
      refine DT_f rfl rfl rfl rfl rfl ?_
      refine DT_f rfl rfl rfl rfl rfl ?_
      refine DT_f rfl rfl rfl rfl rfl ?_
      refine DT_f rfl rfl rfl rfl rfl ?_
      refine DT_f rfl rfl rfl rfl rfl ?_
      refine DT_f rfl rfl rfl rfl rfl ?_
      refine DT_f rfl rfl rfl rfl rfl ?_
      refine DT_ev rfl (EA_pick rfl) rfl ?_
      refine DTi.nil ?_
      refine hK7 _ _ _ ?_
      first | refine AC_cond_f rfl ?_ | refine AC_cond_f (congrArg bl hc3) ?_
      refine AC_exit ?_
      refine hK4 _ _ _ ?_
      refine AC_region ?_
      refine AL_ev (Ev_move) rfl ?_
      first | refine AL_ev (Ev_add rfl rfl _ (wrap_id (by first | omega | (simp; omega)) (by first | omega | (simp; omega)))) rfl ?_ | refine AL_ev (Ev_add rfl rfl _ rfl) rfl ?_
      refine AL_ev (Ev_assign) rfl ?_
      refine AL_nil ?_
      refine closeS (k + 1, cur2) [some 0] rfl rfl (by show A.length - (k + 1) < A.length - k; omega) ?_ (BxTo_some rfl rfl rfl rfl (by first | exact VwL_app (by first | rfl | simp [ints, strs] | simp [ints, strs, injs_map]) | exact VwL_dd (by first | rfl | simp [ints, strs] | simp [ints, strs, injs_map]) | exact VwL_of (by first | rfl | simp [ints, strs] | simp [ints, strs, injs_map])) BxTo_nil) (SlTo_cons (by first | exact .rd .d | exact Vw_int (by first | rfl | assumption | omega | (simp; done) | (simp; omega)) | exact Vw_c (by first | rfl | (simp; done) | simp_all) | exact .any) (SlTo_cons (Vw_refe rfl (by first | rfl | (rw [dsP_length, dsP_length]; omega))) (SlTo_cons (by first | exact .rd .d | exact .any) (SlTo_cons (by first | exact .rd .d | exact .any) (SlTo_cons (by first | exact .rd .d | exact .any) SlTo_nil)))))
      exact ⟨by omega, .inl (by omega), S1 ++ x :: S2, by rw [hcur2]; simp, hpn, srt_put hpx.rt hrS (hSS ▸ hsrt) h2 hlast⟩
  · skip
    have hkA : A.length ≤ k := by have := of_decide_eq_false hc1; omega
    refine AC_exit ?_
    exact rete_ok (cur) (⟨S, by rw [hcur, List.drop_eq_nil_of_le hkA]; simp, by rw [List.take_of_length_le hkA] at hperm; exact hperm, hsrt⟩) [0] (CExt.refl _) rfl rfl rfl (BxF_stay rfl rfl rfl rfl rfl (VxL_d _) rfl BxF_nil) (Nat.le_refl _)

set_option maxHeartbeats 4000000 in
set_option maxRecDepth 4000 in
theorem c_rotate (pool : List (D × D)) (kc : FuncId) (pre X Y post : List D) (hX : X ≠ []) (hY : Y ≠ []) (hel : ∀ x ∈ X ++ Y, x.len? = 4 ∧ x.isAgg = true) (hl : (pre ++ X ++ Y ++ post).length ≤ 1099511627776) : HCallE Try.prog 104 pool [.ref LT 0 0 (pre ++ X ++ Y ++ post).length, i64 pre.length, i64 ((pre.length : Int) + X.length), i64 ((pre.length : Int) + X.length + Y.length), .d (.fn kc [])] [⟨35, LT, (pre ++ X ++ Y ++ post).map V.d⟩] 1 (fun ys : List D => ys = pre ++ Y ++ X ++ post) (fun ys : List D => [⟨35, LT, ys.map V.d⟩]) := by
  have hll : (pre ++ X ++ Y ++ post).length = pre.length + X.length + Y.length + post.length := by first | omega | (simp; done) | (simp; omega)
  have hX0 := List.length_pos_iff.2 hX
  have hY0 := List.length_pos_iff.2 hY
  refine HCallE_of (n := 58) Try.func104 rfl rfl (Nat.le_of_ble_eq_true rfl) (Nat.le_of_ble_eq_true rfl) fun C0 o hT hP => ?_
  refine AC_seq fun K1 hK1 => ?_
  refine AC_region ?_
  refine AL_ev (Ev_move) rfl ?_
  refine AL_ev (Ev_move) rfl ?_
  first | refine AL_ev (Ev_sub rfl rfl _ (wrap_id (by first | omega | (simp; omega)) (by first | omega | (simp; omega)))) rfl ?_ | refine AL_ev (Ev_sub rfl rfl _ rfl) rfl ?_
  refine AL_ev (Ev_assign) rfl ?_
  refine AL_nil ?_
  refine hK1 _ _ _ ?_
  refine AC_seq fun K2 hK2 => ?_
  refine AC_region ?_
  refine AL_ev (Ev_move) rfl ?_
  refine AL_ev (Ev_move) rfl ?_
  first | refine AL_ev (Ev_sub rfl rfl _ (wrap_id (by first | omega | (simp; omega)) (by first | omega | (simp; omega)))) rfl ?_ | refine AL_ev (Ev_sub rfl rfl _ rfl) rfl ?_
  refine AL_ev (Ev_assign) rfl ?_
  refine AL_nil ?_
  refine hK2 _ _ _ ?_
  refine AC_seq fun K3 hK3 => ?_
  refine AC_block ?_
  refine AC_loopS [2, 4] (Nat × Nat × List D) (fun ⟨i, j, cur⟩ => [(10, i64 i), (11, i64 j), (0, .ref LT 0 0 (cur).length)]) (fun ⟨i, j, cur⟩ => [some ⟨⟨35, some (o 0)⟩, LT, (cur).map V.d⟩]) (fun st => st.1 + st.2.1) (fun ⟨i, j, cur⟩ => (0 < i ∧ 0 < j ∧ cur.length = (pre ++ X ++ Y ++ post).length ∧ ∃ Pc Xc Yc Qc : List D, cur = Pc ++ Xc ++ Yc ++ Qc ∧ Xc.length = i ∧ Yc.length = j ∧ Pc.length + i = pre.length + X.length ∧ Pc ++ Yc ++ Xc ++ Qc = pre ++ Y ++ X ++ post ∧ ∀ x ∈ Xc ++ Yc, x.len? = 4 ∧ x.isAgg = true)) ((X.length, Y.length, pre ++ X ++ Y ++ post)) ?_ ?_ ?_
  · skip
    exact enterS [some 0] rfl rfl (BxTo_some rfl rfl rfl rfl (by first | exact .nil | exact VwL_dd (by first | rfl | simp) | exact VwL_app (by first | rfl | simp) | exact VwL_of (by first | rfl | simp)) BxTo_nil) (SlTo_cons (by first | exact .rd .d | exact Vw_int (by first | rfl | assumption | omega | (simp; done) | (simp; omega)) | exact Vw_c (by first | rfl | (simp; done) | simp_all) | exact .any) (SlTo_cons (by first | exact .rd .d | exact Vw_int (by first | rfl | assumption | omega | (simp; done) | (simp; omega)) | exact Vw_c (by first | rfl | (simp; done) | simp_all) | exact .any) (SlTo_cons (Vw_refe rfl (by first | rfl | simp)) (SlTo_cons (by first | exact .rd .d | exact .any) (SlTo_cons (by first | exact .rd .d | exact .any) SlTo_nil)))))
  · skip
    exact ⟨hX0, hY0, rfl, pre, X, Y, post, rfl, rfl, rfl, rfl, rfl, hel⟩
  rintro ⟨i, j, cur⟩ ⟨hi, hj, hcl, Pc, Xc, Yc, Qc, hcur, hXl, hYl, hP1, hgoal, helc⟩
  show AC _ _ _ _ _ (FS [2, 4] _ [(10, i64 i), (11, i64 j), (0, .ref LT 0 0 (cur).length)]) [some ⟨⟨35, some (o 0)⟩, LT, (cur).map V.d⟩]
  refine AC_seq fun K4 hK4 => ?_
  refine AC_seq fun K5 hK5 => ?_
  refine AC_region ?_
  refine AL_ev (Ev_move) rfl ?_
  refine AL_ev (Ev_move) rfl ?_
  refine AL_ev (Ev_neq rfl rfl) rfl ?_
  refine AL_nil ?_
  refine hK5 _ _ _ ?_
  refine AC_cond rfl (fun hc1 => ?_) (fun hc1 => ?_)
  · skip
    have hne : ((i : Nat) : Int) ≠ ((j : Nat) : Int) := by simpa using hc1
    have hcl3 : Pc.length + Xc.length + Yc.length + Qc.length = cur.length := by rw [hcur]; simp; omega
    refine AC_skip ?_
    refine hK4 _ _ _ ?_
    refine AC_block ?_
    refine AC_seq fun K6 hK6 => ?_
    refine AC_region ?_
    refine AL_ev (Ev_move) rfl ?_
    refine AL_ev (Ev_move) rfl ?_
    refine AL_ev (Ev_gtr rfl rfl) rfl ?_
    refine AL_nil ?_
    refine hK6 _ _ _ ?_
    refine AC_cond rfl (fun hc2 => ?_) (fun hc2 => ?_)
    · skip
      have hlt : j < i := by have := of_decide_eq_true hc2; omega
      have hfA : Pc ++ Xc ++ Yc ++ Qc = Pc ++ Xc.take Yc.length ++ Xc.drop Yc.length ++ Yc ++ Qc := by rw [List.append_assoc Pc (Xc.take Yc.length), List.take_append_drop]
      have hlA : (Pc ++ Xc.take Yc.length ++ Xc.drop Yc.length ++ Yc ++ Qc).length ≤ 1099511627776 := by rw [← hfA, ← hcur]; omega
      have helA : ∀ x ∈ Xc.take Yc.length ++ Yc, x.len? = 4 ∧ x.isAgg = true := fun x hx => helc x (by
        rcases List.mem_append.1 hx with h | h
        · exact List.mem_append_left _ (List.mem_of_mem_take h)
        · exact List.mem_append_right _ h)
      refine AC_seq fun K7 hK7 => ?_
      refine AC_region ?_
      refine AL_ev (Ev_move) rfl ?_
      refine AL_ev (Ev_move) rfl ?_
      refine AL_ev (Ev_move) rfl ?_
      first | refine AL_ev (Ev_sub rfl rfl _ (wrap_id (by first | omega | (simp; omega)) (by first | omega | (simp; omega)))) rfl ?_ | refine AL_ev (Ev_sub rfl rfl _ rfl) rfl ?_
      refine AL_ev (Ev_move) rfl ?_
      refine AL_ev (Ev_move) rfl ?_
      refine AL_ev (Ev_move) rfl ?_
      refine AL_hstE hT hP [0] (fun ys => [⟨⟨35, some (o 0)⟩, LT, ys.map V.d⟩]) rfl cl107 (c_swapRange pool kc Pc (Xc.take Yc.length) (Xc.drop Yc.length) Yc Qc (by first | omega | (simp; done) | (simp; omega)) helA hlA) ?_ rfl rfl rfl ?_ (fun _ _ => rfl) ?_ rfl fun nx hnx => ?_
      · exact .cons (Vx_refe rfl (by rw [hcur, hfA])) (.cons (Vx_int (by first | omega | (simp; omega))) (.cons (Vx_int (by first | omega | (simp; omega))) (.cons (Vx_int (by first | omega | (simp; omega))) (.cons .d .nil))))
      · exact BxI_cons rfl rfl rfl rfl rfl (VxL_ds (by rw [hcur, hfA])) BxI_nil
      · exact fun _ _ => BxP_keep rfl rfl (VxL_d _) rfl rfl BxP_nil
      refine AL_nil ?_
      refine hK7 _ _ _ ?_
      refine AC_region ?_
      refine AL_ev (Ev_move) rfl ?_
      refine AL_ev (Ev_move) rfl ?_
      first | refine AL_ev (Ev_sub rfl rfl _ (wrap_id (by first | omega | (simp; omega)) (by first | omega | (simp; omega)))) rfl ?_ | refine AL_ev (Ev_sub rfl rfl _ rfl) rfl ?_
      refine AL_ev (Ev_assign) rfl ?_
      refine AL_nil ?_
      refine closeS (i - j, j, nx) [some 0] rfl rfl (by show i - j + j < i + j; omega) ?_ (BxTo_some rfl rfl rfl rfl (by first | exact VwL_app (by first | rfl | simp [ints, strs] | simp [ints, strs, injs_map]) | exact VwL_dd (by first | rfl | simp [ints, strs] | simp [ints, strs, injs_map]) | exact VwL_of (by first | rfl | simp [ints, strs] | simp [ints, strs, injs_map])) BxTo_nil) (SlTo_cons (by first | exact .rd .d | exact Vw_int (by first | rfl | assumption | omega | (simp; done) | (simp; omega)) | exact Vw_c (by first | rfl | (simp; done) | simp_all) | exact .any) (SlTo_cons (by first | exact .rd .d | exact Vw_int (by first | rfl | assumption | omega | (simp; done) | (simp; omega)) | exact Vw_c (by first | rfl | (simp; done) | simp_all) | exact .any) (SlTo_cons (Vw_refe rfl (by first | rfl | (have h9 := congrArg List.length (show nx = _ from hnx); simp only [List.length_append, List.length_take, List.length_drop] at h9; omega))) (SlTo_cons (by first | exact .rd .d | exact .any) (SlTo_cons (by first | exact .rd .d | exact .any) SlTo_nil)))))
      have hn2 : nx = Pc ++ Yc ++ Xc.drop Yc.length ++ Xc.take Yc.length ++ Qc := hnx
      refine ⟨by omega, by omega, by rw [hn2, ← hcl, hcur]; simp; omega, Pc ++ Yc, Xc.drop Yc.length, Xc.take Yc.length, Qc, hn2, by first | omega | (simp; done) | (simp; omega), by first | omega | (simp; done) | (simp; omega), by first | omega | (simp; done) | (simp; omega), ?_, fun x hx => helc x ?_⟩
      · rw [← hgoal, List.append_assoc (Pc ++ Yc) (Xc.take Yc.length), List.take_append_drop]
      · rcases List.mem_append.1 hx with h | h
        · exact List.mem_append_left _ (List.mem_of_mem_drop h)
        · exact List.mem_append_left _ (List.mem_of_mem_take h)
    · skip
      have hlt : i < j := by have := of_decide_eq_false hc2; omega
      have hfB : Pc ++ Xc ++ Yc ++ Qc = Pc ++ Xc ++ Yc.take (Yc.length - Xc.length) ++ Yc.drop (Yc.length - Xc.length) ++ Qc := by rw [List.append_assoc (Pc ++ Xc) (Yc.take (Yc.length - Xc.length)), List.take_append_drop]
      have hlB : (Pc ++ Xc ++ Yc.take (Yc.length - Xc.length) ++ Yc.drop (Yc.length - Xc.length) ++ Qc).length ≤ 1099511627776 := by rw [← hfB, ← hcur]; omega
      have helB : ∀ x ∈ Xc ++ Yc.drop (Yc.length - Xc.length), x.len? = 4 ∧ x.isAgg = true := fun x hx => helc x (by
        rcases List.mem_append.1 hx with h | h
        · exact List.mem_append_left _ h
        · exact List.mem_append_right _ (List.mem_of_mem_drop h))
      refine AC_seq fun K8 hK8 => ?_
      refine AC_region ?_
      refine AL_ev (Ev_move) rfl ?_
      refine AL_ev (Ev_move) rfl ?_
      refine AL_ev (Ev_move) rfl ?_
      first | refine AL_ev (Ev_sub rfl rfl _ (wrap_id (by first | omega | (simp; omega)) (by first | omega | (simp; omega)))) rfl ?_ | refine AL_ev (Ev_sub rfl rfl _ rfl) rfl ?_
      refine AL_ev (Ev_move) rfl ?_
      refine AL_ev (Ev_move) rfl ?_
      first | refine AL_ev (Ev_add rfl rfl _ (wrap_id (by first | omega | (simp; omega)) (by first | omega | (simp; omega)))) rfl ?_ | refine AL_ev (Ev_add rfl rfl _ rfl) rfl ?_
      refine AL_ev (Ev_move) rfl ?_
      first | refine AL_ev (Ev_sub rfl rfl _ (wrap_id (by first | omega | (simp; omega)) (by first | omega | (simp; omega)))) rfl ?_ | refine AL_ev (Ev_sub rfl rfl _ rfl) rfl ?_
      refine AL_ev (Ev_move) rfl ?_
      refine AL_ev (Ev_move) rfl ?_
      refine AL_hstE hT hP [0] (fun ys => [⟨⟨35, some (o 0)⟩, LT, ys.map V.d⟩]) rfl cl107 (c_swapRange pool kc Pc Xc (Yc.take (Yc.length - Xc.length)) (Yc.drop (Yc.length - Xc.length)) Qc (by first | omega | (simp; done) | (simp; omega)) helB hlB) ?_ rfl rfl rfl ?_ (fun _ _ => rfl) ?_ rfl fun nx hnx => ?_
      · exact .cons (Vx_refe rfl (by rw [hcur, hfB])) (.cons (Vx_int (by first | omega | (simp; omega))) (.cons (Vx_int (by first | omega | (simp; omega))) (.cons (Vx_int (by first | omega | (simp; omega))) (.cons .d .nil))))
      · exact BxI_cons rfl rfl rfl rfl rfl (VxL_ds (by rw [hcur, hfB])) BxI_nil
      · exact fun _ _ => BxP_keep rfl rfl (VxL_d _) rfl rfl BxP_nil
      refine AL_nil ?_
      refine hK8 _ _ _ ?_
      refine AC_region ?_
      refine AL_ev (Ev_move) rfl ?_
      refine AL_ev (Ev_move) rfl ?_
      first | refine AL_ev (Ev_sub rfl rfl _ (wrap_id (by first | omega | (simp; omega)) (by first | omega | (simp; omega)))) rfl ?_ | refine AL_ev (Ev_sub rfl rfl _ rfl) rfl ?_
      refine AL_ev (Ev_assign) rfl ?_
      refine AL_nil ?_
      refine closeS (i, j - i, nx) [some 0] rfl rfl (by show i + (j - i) < i + j; omega) ?_ (BxTo_some rfl rfl rfl rfl (by first | exact VwL_app (by first | rfl | simp [ints, strs] | simp [ints, strs, injs_map]) | exact VwL_dd (by first | rfl | simp [ints, strs] | simp [ints, strs, injs_map]) | exact VwL_of (by first | rfl | simp [ints, strs] | simp [ints, strs, injs_map])) BxTo_nil) (SlTo_cons (by first | exact .rd .d | exact Vw_int (by first | rfl | assumption | omega | (simp; done) | (simp; omega)) | exact Vw_c (by first | rfl | (simp; done) | simp_all) | exact .any) (SlTo_cons (by first | exact .rd .d | exact Vw_int (by first | rfl | assumption | omega | (simp; done) | (simp; omega)) | exact Vw_c (by first | rfl | (simp; done) | simp_all) | exact .any) (SlTo_cons (Vw_refe rfl (by first | rfl | (have h9 := congrArg List.length (show nx = _ from hnx); simp only [List.length_append, List.length_take, List.length_drop] at h9; omega))) (SlTo_cons (by first | exact .rd .d | exact .any) (SlTo_cons (by first | exact .rd .d | exact .any) SlTo_nil)))))
      have hn2 : nx = Pc ++ Yc.drop (Yc.length - Xc.length) ++ Yc.take (Yc.length - Xc.length) ++ Xc ++ Qc := hnx
      refine ⟨by omega, by omega, by rw [hn2, ← hcl, hcur]; simp; omega, Pc, Yc.drop (Yc.length - Xc.length), Yc.take (Yc.length - Xc.length), Xc ++ Qc, by rw [hn2]; simp, by first | omega | (simp; done) | (simp; omega), by first | omega | (simp; done) | (simp; omega), by omega, ?_, fun x hx => helc x ?_⟩
      · rw [← hgoal, ← List.append_assoc (Pc ++ Yc.take _ ++ Yc.drop _), List.append_assoc Pc (Yc.take (Yc.length - Xc.length)), List.take_append_drop]
      · rcases List.mem_append.1 hx with h | h
        · exact List.mem_append_right _ (List.mem_of_mem_drop h)
        · exact List.mem_append_right _ (List.mem_of_mem_take h)
  · skip
    have hne : ((i : Nat) : Int) = ((j : Nat) : Int) := by simpa using hc1
    have hcl3 : Pc.length + Xc.length + Yc.length + Qc.length = cur.length := by rw [hcur]; simp; omega
    have hfC : Pc ++ Xc ++ Yc ++ Qc = Pc ++ Xc ++ [] ++ Yc ++ Qc := by simp
    have hlC : (Pc ++ Xc ++ [] ++ Yc ++ Qc).length ≤ 1099511627776 := by rw [← hfC, ← hcur]; omega
    refine AC_exit ?_
    refine hK3 _ _ _ ?_
    refine AC_region ?_
    refine AL_ev (Ev_move) rfl ?_
    refine AL_ev (Ev_move) rfl ?_
    refine AL_ev (Ev_move) rfl ?_
    first | refine AL_ev (Ev_sub rfl rfl _ (wrap_id (by first | omega | (simp; omega)) (by first | omega | (simp; omega)))) rfl ?_ | refine AL_ev (Ev_sub rfl rfl _ rfl) rfl ?_
    refine AL_ev (Ev_move) rfl ?_
    refine AL_ev (Ev_move) rfl ?_
    refine AL_ev (Ev_move) rfl ?_
    refine AL_hstE hT hP [0] (fun ys => [⟨⟨35, some (o 0)⟩, LT, ys.map V.d⟩]) rfl cl107 (c_swapRange pool kc Pc Xc [] Yc Qc (by omega) helc hlC) ?_ rfl rfl rfl ?_ (fun _ _ => rfl) ?_ rfl fun nx hnx => ?_
    · exact .cons (Vx_refe rfl (by rw [hcur, hfC])) (.cons (Vx_int (by first | omega | (simp; omega))) (.cons (Vx_int (by first | omega | (simp; omega))) (.cons (Vx_int (by first | omega | (simp; omega))) (.cons .d .nil))))
    · exact BxI_cons rfl rfl rfl rfl rfl (VxL_ds (by rw [hcur, hfC])) BxI_nil
    · exact fun _ _ => BxP_keep rfl rfl (VxL_d _) rfl rfl BxP_nil
    refine AL_nil ?_
    have hn2 : nx = Pc ++ Yc ++ [] ++ Xc ++ Qc := hnx
    exact rete_ok (nx) (by show nx = _; rw [hn2, ← hgoal]; simp) [0] (CExt.refl _) rfl rfl rfl (BxF_stay rfl rfl rfl rfl rfl (VxL_d _) rfl BxF_nil) (Nat.le_refl _)

end Go.Proofs.Ytjhdkjacfclipaa
