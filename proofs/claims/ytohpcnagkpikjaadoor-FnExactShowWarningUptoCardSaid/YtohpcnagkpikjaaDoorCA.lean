/- Contracts of functions. -/
import Derived.Test.YtohpcnagkpikjaaDoorMt
import Derived.Test.YtohpcnagkpikjaaDoorOk
import Derived.Test.YtohpcnagkpikjaaDoorWn
import Derived.Test.YtohpcnagkpikjaaDoorEng25
import Derived.Test.YtohpcnagkpikjaaDoorTy
import Derived.Test.YtohpcnagkpikjaaDoorIt
set_option linter.unusedVariables false
set_option linter.unusedSimpArgs false
namespace Go.Proofs.YtohpcnagkpikjaaDoor
open Go.Eng

set_option maxHeartbeats 1000000 in
set_option maxRecDepth 4000 in
theorem c_toTermS (ks : List T) (ih : ∀ u ∈ ks, OCall Tryd.prog 11 [inj u] (inj u)) : OCall Tryd.prog 20 [.sl LT (injs ks)] (.sl LT (injs ks)) := by
  refine OCall_of (n := 23) Tryd.func20 rfl rfl (Nat.le_of_ble_eq_true rfl) fun C0 hdm hT0 => ?_
  have hX0 := CExt.refl C0
  have hT := hT0
  refine AC_seq fun K1 hK1 => ?_
  refine AC_region ?_
  refine AL_ev (Ev_assign) rfl ?_
  refine AL_nil ?_
  refine hK1 _ _ _ ?_
  refine AC_seq fun K2 hK2 => ?_
  refine AC_region ?_
  refine AL_ev (Ev_move) rfl ?_
  first | refine AL_lim (x := (Operand.tmp 5)) rfl fun hl1 => ?_ | refine AL_limB (x := (Operand.tmp 5)) rfl rfl (by first | rfl | (simp; done) | (simp; omega)) fun hl1 => ?_ | have hl1 := True.intro
  try simp only [injs_length, ints_length, strs_length, List.length_map] at hl1
  first | refine AL_ev (Ev_len_injs te29 rfl) rfl ?_ | refine AL_ev (Ev_len_sl te29 rfl) rfl ?_ | refine AL_ev (Ev_len_ref te29 rfl) rfl ?_ | refine AL_ev (Ev_len_nil te29 rfl) rfl ?_ | refine AL_ev (Ev_len_c te29 rfl) rfl ?_
  refine AL_makeSlice (Lay.st [.one, .one, .one, .one]) te34 ts36 zo36 tb36 rfl (by simp only [lim]; first | omega | (simp; done) | (simp; omega)) (by first | omega | (simp; omega)) (by decide) _ rfl rfl ?_
  refine AL_ev (Ev_assign) rfl ?_
  refine AL_nil ?_
  refine hK2 _ _ _ ?_
  refine AC_seq fun K3 hK3 => ?_
  refine AC_seq fun K4 hK4 => ?_
  refine AC_region ?_
  refine AL_ev (Ev_assign) rfl ?_
  refine AL_nil ?_
  refine hK4 _ _ _ ?_
  refine AC_block ?_
  refine AC_loopX (List (List Value) × List Nat) (fun st => [(4, i64 st.1.length)]) (fun st => [some ⟨36, LT, st.1.map (rawV LT) ++ List.replicate (ks.length - st.1.length) (V.d zT)⟩]) (fun st => ks.length - st.1.length) (fun C st => st.1.length ≤ ks.length ∧ CExt C0 C ∧ HasL C0.w0.heap.size C LT st.1 (injs (ks.take st.1.length)) st.2) [0, 3] ?_ ?_
  · skip
    exact enterX ([], []) [some 0] rfl rfl ⟨Nat.zero_le _, hX0, HasL.nil⟩ (BxTo_some rfl rfl rfl rfl (VwL_fill (css' := []) (by simp [zT])) BxTo_nil) (SlTo_cons (by first | exact .rd .d | exact .ptr rfl | exact .ref rfl | exact .any | exact Vw_int (by omega)) (SlTo_cons (by first | exact .rd .d | exact .ptr rfl | exact .ref rfl | exact .any | exact Vw_int (by omega)) (SlTo_cons (by first | exact .rd .d | exact .ptr rfl | exact .ref rfl | exact .any | exact Vw_int (by omega)) SlTo_nil)))
  rintro CL st ⟨hj, hX, hL⟩
  have hT := hT0.ext hX
  refine AC_seq fun K5 hK5 => ?_
  refine AC_seq fun K6 hK6 => ?_
  refine AC_region ?_
  refine AL_ev (Ev_move) rfl ?_
  refine AL_ev (Ev_move) rfl ?_
  first | refine AL_lim (x := (Operand.tmp 9)) rfl fun hl2 => ?_ | refine AL_limB (x := (Operand.tmp 9)) rfl rfl (by first | rfl | (simp; done) | (simp; omega)) fun hl2 => ?_ | have hl2 := True.intro
  try simp only [injs_length, ints_length, strs_length, List.length_map] at hl2
  first | refine AL_ev (Ev_len_injs te29 rfl) rfl ?_ | refine AL_ev (Ev_len_sl te29 rfl) rfl ?_ | refine AL_ev (Ev_len_ref te29 rfl) rfl ?_ | refine AL_ev (Ev_len_nil te29 rfl) rfl ?_ | refine AL_ev (Ev_len_c te29 rfl) rfl ?_
  refine AL_ev (Ev_lss rfl rfl) rfl ?_
  refine AL_nil ?_
  refine hK6 _ _ _ ?_
  refine AC_cond rfl (fun hc1 => ?_) (fun hc1 => ?_)
  · skip
    have hlt : st.1.length < ks.length := by simpa [injs_length] using hc1
    obtain ⟨u, hu⟩ : ∃ u, ks[st.1.length]? = some u := ⟨_, List.getElem?_eq_getElem hlt⟩
    have hu2 := injs_get hu
    refine AC_skip ?_
    refine hK5 _ _ _ ?_
    refine AC_seq fun K7 hK7 => ?_
    refine AC_block ?_
    refine AC_region ?_
    refine AL_ev (Ev_move) rfl ?_
    refine AL_ev (Ev_move) rfl ?_
    refine AL_ev (Ev_move) rfl ?_
    refine AL_ev (Ev_move) rfl ?_
    first | refine AL_ev (Ev_ix_sl rfl rfl te29 ts31 (by omega) (by assumption)) rfl ?_ | refine AL_ev (Ev_ix_ref rfl rfl te29 ts31 (by omega) (by first | omega | (simp; omega))) rfl ?_
    first | refine AL_ev (Ev_load_ptr rfl rfl rfl rfl rfl rfl ts31 ta31 (by first | rfl | simp) (by intro h; cases h)) rfl ?_ | refine AL_ev (Ev_load_rp rfl rfl rfl ts31 ta31 (by first | rfl | simp) (by intro h; cases h)) rfl ?_
    refine AL_ocall0 hT LT rfl cl11 (ih u (List.mem_of_getElem? hu)) rfl (inj_lenL _) (inj_agL _) rfl fun C1 cs1 K1 hg1 => ?_
    have hX1 := hX.trans hg1.ext
    have hT := hT.ext hg1.ext
    have hes := fill_get (l := LT) (z := zT) st.1 ks.length hlt
    first | refine AL_ev (Ev_ix_sl rfl rfl te34 ts36 (by omega) (by assumption)) rfl ?_ | refine AL_ev (Ev_ix_ref rfl rfl te34 ts36 (by omega) (by first | omega | (simp; omega))) rfl ?_
    first | refine AL_store rfl (nf rfl) rfl rfl rfl rfl rfl rfl (by first | rfl | simp [Lay.len, Lay.lens]) ts36 rfl rfl ?_ | refine AL_store rfl (nf rfl) rfl rfl rfl hes rfl rfl (by first | rfl | simp [Lay.len, Lay.lens]) ts36 rfl rfl ?_
    refine AL_nil ?_
    refine hK7 _ _ _ ?_
    refine AC_region ?_
    refine AL_ev (Ev_move) rfl ?_
    first | refine AL_ev (Ev_add rfl rfl _ (wrap_id (by first | omega | (simp; omega)) (by first | omega | (simp; omega)))) rfl ?_ | refine AL_ev (Ev_add rfl rfl _ rfl) rfl ?_
    refine AL_ev (Ev_assign) rfl ?_
    refine AL_nil ?_
    have hst2 : (st.1 ++ [cs1]).length = st.1.length + 1 := by simp
    refine closeX (st.1 ++ [cs1], st.2 ++ K1) [some 0] rfl rfl (by show ks.length - (st.1 ++ [cs1]).length < ks.length - st.1.length; omega) ⟨by show (st.1 ++ [cs1]).length ≤ _; omega, hX1, ?_⟩ (BxTo_some rfl rfl rfl rfl (VwL_fill (fill_set st.1 ks.length hlt cs1)) BxTo_nil) (SlTo_cons (Vw_int (by show _ = (((st.1 ++ [cs1]).length : Nat) : Int); rw [hst2]; omega)) (SlTo_cons (by first | exact .rd .d | exact .ptr rfl | exact .ref rfl | exact .any | exact Vw_int (by omega)) (SlTo_cons (by first | exact .rd .d | exact .ptr rfl | exact .ref rfl | exact .any | exact Vw_int (by omega)) SlTo_nil)))
    show HasL _ _ _ (st.1 ++ [cs1]) (injs (ks.take (st.1 ++ [cs1]).length)) _
    rw [hst2, injs_take_get hu]
    exact hL.snoc hg1.ext hg1.has hX.pres.size (inj_lenL u)
  · skip
    refine AC_exit ?_
    refine hK3 _ _ _ ?_
    refine AC_seq fun K8 hK8 => ?_
    refine AC_region ?_
    refine AL_ev (Ev_move) rfl ?_
    refine AL_ev (Ev_assign) rfl ?_
    refine AL_nil ?_
    refine hK8 _ _ _ ?_
    refine AC_ret ?_
    have hj2 : st.1.length = ks.length := by
      have : ¬ st.1.length < ks.length := by simpa [injs_length] using hc1
      omega
    rw [← hj2, fill_done]
    rw [hj2, List.take_length] at hL
    refine reto_ok hX hdm (.tmp rfl rfl .nil) (.ref rfl rfl (by first | omega | (simp; done) | (simp; omega)) (OwVs_raws hL (by first | omega | (simp; done) | (simp; omega))) (by simp)) rfl rfl

set_option maxHeartbeats 1000000 in
set_option maxRecDepth 4000 in
theorem c_toTerm (t : T) : OCall Tryd.prog 11 [inj t] (inj t) := by
  induction t using T.ind with | h k s m ks ih => ?_
  refine OCall_of (n := 18) Tryd.func11 rfl rfl (Nat.le_of_ble_eq_true rfl) fun C0 hdm hT0 => ?_
  have hX0 := CExt.refl C0
  have hT := hT0
  refine AC_seq fun K1 hK1 => ?_
  refine AC_region ?_
  refine AL_box (Lay.st [.one, .one, .one, .one]) (nf rfl) rfl (by first | rfl | simp [Lay.len, Lay.lens]) _ rfl rfl ?_
  refine AL_alloc zo36 _ rfl rfl ?_
  refine AL_nil ?_
  refine hK1 _ _ _ ?_
  refine AC_seq fun K2 hK2 => ?_
  refine AC_region ?_
  refine AL_alloc zo36 _ rfl rfl ?_
  refine AL_nil ?_
  refine hK2 _ _ _ ?_
  refine AC_seq fun K3 hK3 => ?_
  refine AC_region ?_
  first | refine AL_ev (Ev_fa_ptr rfl fa31_0 rfl rfl) rfl ?_ | refine AL_ev (Ev_fa_rp rfl fa31_0 rfl rfl) rfl ?_
  first | refine AL_ev (Ev_load_ptr rfl rfl rfl rfl rfl rfl ts3 ta3 rfl (fun _ => rfl)) rfl ?_ | refine AL_ev (Ev_load_rp rfl rfl rfl ts3 ta3 rfl (fun _ => rfl)) rfl ?_
  first | refine AL_ev (Ev_fa_ptr rfl fa36_0 rfl rfl) rfl ?_ | refine AL_ev (Ev_fa_rp rfl fa36_0 rfl rfl) rfl ?_
  first | refine AL_store rfl (nf rfl) rfl rfl rfl rfl rfl rfl (by first | rfl | simp [Lay.len, Lay.lens]) ts3 rfl rfl ?_ | refine AL_store rfl (nf rfl) rfl rfl rfl hes rfl rfl (by first | rfl | simp [Lay.len, Lay.lens]) ts3 rfl rfl ?_
  refine AL_nil ?_
  refine hK3 _ _ _ ?_
  refine AC_seq fun K4 hK4 => ?_
  refine AC_region ?_
  first | refine AL_ev (Ev_fa_ptr rfl fa31_1 rfl rfl) rfl ?_ | refine AL_ev (Ev_fa_rp rfl fa31_1 rfl rfl) rfl ?_
  first | refine AL_ev (Ev_load_ptr rfl rfl rfl rfl rfl rfl ts9 ta9 rfl (fun _ => rfl)) rfl ?_ | refine AL_ev (Ev_load_rp rfl rfl rfl ts9 ta9 rfl (fun _ => rfl)) rfl ?_
  first | refine AL_ev (Ev_fa_ptr rfl fa36_1 rfl rfl) rfl ?_ | refine AL_ev (Ev_fa_rp rfl fa36_1 rfl rfl) rfl ?_
  first | refine AL_store rfl (nf rfl) rfl rfl rfl rfl rfl rfl (by first | rfl | simp [Lay.len, Lay.lens]) ts9 rfl rfl ?_ | refine AL_store rfl (nf rfl) rfl rfl rfl hes rfl rfl (by first | rfl | simp [Lay.len, Lay.lens]) ts9 rfl rfl ?_
  refine AL_nil ?_
  refine hK4 _ _ _ ?_
  refine AC_seq fun K5 hK5 => ?_
  refine AC_region ?_
  first | refine AL_ev (Ev_fa_ptr rfl fa31_2 rfl rfl) rfl ?_ | refine AL_ev (Ev_fa_rp rfl fa31_2 rfl rfl) rfl ?_
  first | refine AL_ev (Ev_load_ptr rfl rfl rfl rfl rfl rfl ts3 ta3 rfl (fun _ => rfl)) rfl ?_ | refine AL_ev (Ev_load_rp rfl rfl rfl ts3 ta3 rfl (fun _ => rfl)) rfl ?_
  first | refine AL_ev (Ev_fa_ptr rfl fa36_2 rfl rfl) rfl ?_ | refine AL_ev (Ev_fa_rp rfl fa36_2 rfl rfl) rfl ?_
  first | refine AL_store rfl (nf rfl) rfl rfl rfl rfl rfl rfl (by first | rfl | simp [Lay.len, Lay.lens]) ts3 rfl rfl ?_ | refine AL_store rfl (nf rfl) rfl rfl rfl hes rfl rfl (by first | rfl | simp [Lay.len, Lay.lens]) ts3 rfl rfl ?_
  refine AL_nil ?_
  refine hK5 _ _ _ ?_
  refine AC_seq fun K6 hK6 => ?_
  refine AC_region ?_
  first | refine AL_ev (Ev_fa_ptr rfl fa31_3 rfl rfl) rfl ?_ | refine AL_ev (Ev_fa_rp rfl fa31_3 rfl rfl) rfl ?_
  first | refine AL_ev (Ev_load_ptr rfl rfl rfl rfl rfl rfl ts29 ta29 rfl (fun _ => rfl)) rfl ?_ | refine AL_ev (Ev_load_rp rfl rfl rfl ts29 ta29 rfl (fun _ => rfl)) rfl ?_
  refine AL_ocall0 hT .one rfl cl20 (c_toTermS ks ih) rfl rfl rfl rfl fun C1 cs1 K1 hg1 => ?_
  have hX1 := hX0.trans hg1.ext
  have hT := hT.ext hg1.ext
  obtain ⟨A1, rfl⟩ := one_cell_of hg1.has
  first | refine AL_ev (Ev_fa_ptr rfl fa36_3 rfl rfl) rfl ?_ | refine AL_ev (Ev_fa_rp rfl fa36_3 rfl rfl) rfl ?_
  first | refine AL_store rfl (nf rfl) rfl rfl rfl rfl rfl rfl (by first | rfl | simp [Lay.len, Lay.lens]) ts34 rfl rfl ?_ | refine AL_store rfl (nf rfl) rfl rfl rfl hes rfl rfl (by first | rfl | simp [Lay.len, Lay.lens]) ts34 rfl rfl ?_
  refine AL_nil ?_
  refine hK6 _ _ _ ?_
  refine AC_seq fun K7 hK7 => ?_
  refine AC_region ?_
  first | refine AL_ev (Ev_load_ptr rfl rfl rfl rfl rfl rfl ts36 ta36 (by first | rfl | simp) (by intro h; cases h)) rfl ?_ | refine AL_ev (Ev_load_rp rfl rfl rfl ts36 ta36 (by first | rfl | simp) (by intro h; cases h)) rfl ?_
  first | refine AL_store rfl (nf rfl) rfl rfl rfl rfl rfl rfl (by first | rfl | simp [Lay.len, Lay.lens]) ts36 rfl rfl ?_ | refine AL_store rfl (nf rfl) rfl rfl rfl hes rfl rfl (by first | rfl | simp [Lay.len, Lay.lens]) ts36 rfl rfl ?_
  refine AL_nil ?_
  refine hK7 _ _ _ ?_
  refine AC_ret ?_
  exact reto_ok hX1 hdm (.cell rfl rfl rfl rfl rfl rfl ts36 ta36 rfl (by intro h; cases h) .nil) (ow_T (hg1.has.le hX0.pres.size)) rfl rfl

set_option maxHeartbeats 1000000 in
set_option maxRecDepth 4000 in
theorem c_eqTermS (ks : List T) (ih : ∀ u ∈ ks, PCall Tryd.prog 13 [inj u, inj u] (· = [.c (.bool true)])) : PCall Tryd.prog 23 [.sl LT (injs ks), .sl LT (injs ks)] (· = [.c (.bool true)]) := by
  refine PCall_of (n := 27) Tryd.func23 rfl rfl (Nat.le_of_ble_eq_true rfl) fun C hdm hT0 => ?_
  have hT := hT0
  refine AC_seq fun K1 hK1 => ?_
  refine AC_region ?_
  refine AL_ev (Ev_assign) rfl ?_
  refine AL_nil ?_
  refine hK1 _ _ _ ?_
  refine AC_seq fun K2 hK2 => ?_
  refine AC_seq fun K3 hK3 => ?_
  refine AC_region ?_
  refine AL_ev (Ev_move) rfl ?_
  first | refine AL_lim (x := (Operand.tmp 6)) rfl fun hl1 => ?_ | refine AL_limB (x := (Operand.tmp 6)) rfl rfl (by first | rfl | (simp; done) | (simp; omega)) fun hl1 => ?_ | have hl1 := True.intro
  try simp only [injs_length, ints_length, strs_length, List.length_map] at hl1
  first | refine AL_ev (Ev_len_injs te34 rfl) rfl ?_ | refine AL_ev (Ev_len_sl te34 rfl) rfl ?_ | refine AL_ev (Ev_len_ref te34 rfl) rfl ?_ | refine AL_ev (Ev_len_nil te34 rfl) rfl ?_ | refine AL_ev (Ev_len_c te34 rfl) rfl ?_
  refine AL_ev (Ev_move) rfl ?_
  first | refine AL_lim (x := (Operand.tmp 8)) rfl fun hl2 => ?_ | refine AL_limB (x := (Operand.tmp 8)) rfl rfl (by first | rfl | (simp; done) | (simp; omega)) fun hl2 => ?_ | have hl2 := True.intro
  try simp only [injs_length, ints_length, strs_length, List.length_map] at hl2
  first | refine AL_ev (Ev_len_injs te34 rfl) rfl ?_ | refine AL_ev (Ev_len_sl te34 rfl) rfl ?_ | refine AL_ev (Ev_len_ref te34 rfl) rfl ?_ | refine AL_ev (Ev_len_nil te34 rfl) rfl ?_ | refine AL_ev (Ev_len_c te34 rfl) rfl ?_
  refine AL_ev (Ev_neq rfl rfl) rfl ?_
  refine AL_nil ?_
  refine hK3 _ _ _ ?_
  refine AC_cond rfl (fun hc1 => ?_) (fun hc1 => ?_)
  · skip
    exact absurd hc1 (by simp)
  · skip
    refine AC_skip ?_
    refine hK2 _ _ _ ?_
    refine AC_seq fun K4 hK4 => ?_
    refine AC_seq fun K5 hK5 => ?_
    refine AC_region ?_
    refine AL_ev (Ev_assign) rfl ?_
    refine AL_nil ?_
    refine hK5 _ _ _ ?_
    refine AC_block ?_
    refine AC_loopS [0, 1] (Nat) (fun j => [(5, i64 j)]) (fun j => []) (fun j => ks.length - j) (fun j => j ≤ ks.length) (0) ?_ ?_ ?_
    · skip
      exact enterS [] rfl rfl BxTo_nil (SlTo_cons (by first | exact .rd .d | exact .ptr rfl | exact .ref rfl | exact .any | exact Vw_int (by omega)) (SlTo_cons (by first | exact .rd .d | exact .ptr rfl | exact .ref rfl | exact .any | exact Vw_int (by omega)) (SlTo_cons (by first | exact .rd .d | exact .ptr rfl | exact .ref rfl | exact .any | exact Vw_int (by omega)) SlTo_nil)))
    · skip
      exact Nat.zero_le _
    intro j hj
    refine AC_seq fun K6 hK6 => ?_
    refine AC_seq fun K7 hK7 => ?_
    refine AC_region ?_
    refine AL_ev (Ev_move) rfl ?_
    refine AL_ev (Ev_move) rfl ?_
    first | refine AL_lim (x := (Operand.tmp 12)) rfl fun hl3 => ?_ | refine AL_limB (x := (Operand.tmp 12)) rfl rfl (by first | rfl | (simp; done) | (simp; omega)) fun hl3 => ?_ | have hl3 := True.intro
    try simp only [injs_length, ints_length, strs_length, List.length_map] at hl3
    first | refine AL_ev (Ev_len_injs te34 rfl) rfl ?_ | refine AL_ev (Ev_len_sl te34 rfl) rfl ?_ | refine AL_ev (Ev_len_ref te34 rfl) rfl ?_ | refine AL_ev (Ev_len_nil te34 rfl) rfl ?_ | refine AL_ev (Ev_len_c te34 rfl) rfl ?_
    refine AL_ev (Ev_lss rfl rfl) rfl ?_
    refine AL_nil ?_
    refine hK7 _ _ _ ?_
    refine AC_cond rfl (fun hc2 => ?_) (fun hc2 => ?_)
    · skip
      have hlt : j < ks.length := by simpa using hc2
      obtain ⟨u, hu⟩ : ∃ u, ks[j]? = some u := ⟨_, List.getElem?_eq_getElem hlt⟩
      have hu2 := injs_get hu
      refine AC_skip ?_
      refine hK6 _ _ _ ?_
      refine AC_seq fun K8 hK8 => ?_
      refine AC_block ?_
      refine AC_seq fun K9 hK9 => ?_
      refine AC_draw hT follows [0, 1, 2, 3, 4, 5, 6, 7, 8, 9] (by kernel_rfl) ?_
      refine DT_ev rfl (EA_move) rfl ?_
      refine DT_ev rfl (EA_move) rfl ?_
      first | refine DT_ev rfl (EA_ix_sl rfl rfl te34 ts36 (by omega) (by assumption)) rfl ?_ | refine DT_ev rfl (EA_ix_ref rfl rfl te34 ts36 (by omega) (by first | omega | (simp; omega))) rfl ?_
      first | refine DT_ev rfl (EA_load_ptr rfl rfl rfl rfl rfl rfl ts36 ta36 (by first | rfl | simp) (by intro h; cases h)) rfl ?_ | refine DT_ev rfl (EA_load_rp rfl rfl rfl ts36 ta36 (by first | rfl | simp) (by intro h; cases h)) rfl ?_
      refine DT_ev rfl (EA_move) rfl ?_
      refine DT_ev rfl (EA_move) rfl ?_
      first | refine DT_ev rfl (EA_ix_sl rfl rfl te34 ts36 (by omega) (by assumption)) rfl ?_ | refine DT_ev rfl (EA_ix_ref rfl rfl te34 ts36 (by omega) (by first | omega | (simp; omega))) rfl ?_
      first | refine DT_ev rfl (EA_load_ptr rfl rfl rfl rfl rfl rfl ts36 ta36 (by first | rfl | simp) (by intro h; cases h)) rfl ?_ | refine DT_ev rfl (EA_load_rp rfl rfl rfl ts36 ta36 (by first | rfl | simp) (by intro h; cases h)) rfl ?_
      refine DT_fcall0 rfl rfl cl13 (ih u (List.mem_of_getElem? hu)) rfl rfl ?_
      refine DT_ev rfl (EA_not rfl) rfl ?_
      refine DTi.nil ?_
      refine hK9 _ _ _ ?_
      refine AC_cond rfl (fun hc3 => ?_) (fun hc3 => ?_)
      · skip
        exact absurd hc3 (by simp)
      · skip
        refine AC_skip ?_
        refine hK8 _ _ _ ?_
        refine AC_region ?_
        refine AL_ev (Ev_move) rfl ?_
        first | refine AL_ev (Ev_add rfl rfl _ (wrap_id (by first | omega | (simp; omega)) (by first | omega | (simp; omega)))) rfl ?_ | refine AL_ev (Ev_add rfl rfl _ rfl) rfl ?_
        refine AL_ev (Ev_assign) rfl ?_
        refine AL_nil ?_
        refine closeS (j + 1) [] rfl rfl (by show ks.length - (j + 1) < ks.length - j; omega) hlt BxTo_nil (SlTo_cons (Vw_int (by omega)) (SlTo_cons (by first | exact .rd .d | exact .ptr rfl | exact .ref rfl | exact .any | exact Vw_int (by omega)) (SlTo_cons (by first | exact .rd .d | exact .ptr rfl | exact .ref rfl | exact .any | exact Vw_int (by omega)) SlTo_nil)))
    · skip
      refine AC_exit ?_
      refine hK4 _ _ _ ?_
      refine AC_seq fun K10 hK10 => ?_
      refine AC_region ?_
      refine AL_ev (Ev_assign) rfl ?_
      refine AL_nil ?_
      refine hK10 _ _ _ ?_
      refine AC_ret ?_
      exact ret_ok hdm (.tmp rfl rfl .nil) (.cons .d .nil) rfl

set_option maxHeartbeats 1000000 in
set_option maxRecDepth 4000 in
theorem c_eqTerm (t : T) : PCall Tryd.prog 13 [inj t, inj t] (· = [.c (.bool true)]) := by
  induction t using T.ind with | h k s m ks ih => ?_
  refine PCall_of (n := 26) Tryd.func13 rfl rfl (Nat.le_of_ble_eq_true rfl) fun C hdm hT0 => ?_
  have hT := hT0
  refine AC_seq fun K1 hK1 => ?_
  refine AC_region ?_
  refine AL_box (Lay.st [.one, .one, .one, .one]) (nf rfl) rfl (by first | rfl | simp [Lay.len, Lay.lens]) _ rfl rfl ?_
  refine AL_box (Lay.st [.one, .one, .one, .one]) (nf rfl) rfl (by first | rfl | simp [Lay.len, Lay.lens]) _ rfl rfl ?_
  refine AL_ev (Ev_assign) rfl ?_
  refine AL_nil ?_
  refine hK1 _ _ _ ?_
  refine AC_seq fun K2 hK2 => ?_
  refine AC_seq fun K3 hK3 => ?_
  refine AC_region ?_
  first | refine AL_ev (Ev_fa_ptr rfl fa36_0 rfl rfl) rfl ?_ | refine AL_ev (Ev_fa_rp rfl fa36_0 rfl rfl) rfl ?_
  first | refine AL_ev (Ev_load_ptr rfl rfl rfl rfl rfl rfl ts3 ta3 rfl (fun _ => rfl)) rfl ?_ | refine AL_ev (Ev_load_rp rfl rfl rfl ts3 ta3 rfl (fun _ => rfl)) rfl ?_
  first | refine AL_ev (Ev_fa_ptr rfl fa36_0 rfl rfl) rfl ?_ | refine AL_ev (Ev_fa_rp rfl fa36_0 rfl rfl) rfl ?_
  first | refine AL_ev (Ev_load_ptr rfl rfl rfl rfl rfl rfl ts3 ta3 rfl (fun _ => rfl)) rfl ?_ | refine AL_ev (Ev_load_rp rfl rfl rfl ts3 ta3 rfl (fun _ => rfl)) rfl ?_
  refine AL_ev (Ev_neq rfl rfl) rfl ?_
  refine AL_nil ?_
  refine hK3 _ _ _ ?_
  refine AC_cond rfl (fun hc1 => ?_) (fun hc1 => ?_)
  · skip
    exact absurd hc1 (by simp)
  · skip
    refine AC_skip ?_
    refine hK2 _ _ _ ?_
    refine AC_seq fun K4 hK4 => ?_
    refine AC_seq fun K5 hK5 => ?_
    refine AC_region ?_
    first | refine AL_ev (Ev_fa_ptr rfl fa36_1 rfl rfl) rfl ?_ | refine AL_ev (Ev_fa_rp rfl fa36_1 rfl rfl) rfl ?_
    first | refine AL_ev (Ev_load_ptr rfl rfl rfl rfl rfl rfl ts9 ta9 rfl (fun _ => rfl)) rfl ?_ | refine AL_ev (Ev_load_rp rfl rfl rfl ts9 ta9 rfl (fun _ => rfl)) rfl ?_
    first | refine AL_ev (Ev_fa_ptr rfl fa36_1 rfl rfl) rfl ?_ | refine AL_ev (Ev_fa_rp rfl fa36_1 rfl rfl) rfl ?_
    first | refine AL_ev (Ev_load_ptr rfl rfl rfl rfl rfl rfl ts9 ta9 rfl (fun _ => rfl)) rfl ?_ | refine AL_ev (Ev_load_rp rfl rfl rfl ts9 ta9 rfl (fun _ => rfl)) rfl ?_
    refine AL_ev (Ev_sneq rfl rfl) rfl ?_
    refine AL_nil ?_
    refine hK5 _ _ _ ?_
    refine AC_cond rfl (fun hc2 => ?_) (fun hc2 => ?_)
    · skip
      exact absurd hc2 (by simp)
    · skip
      refine AC_skip ?_
      refine hK4 _ _ _ ?_
      refine AC_seq fun K6 hK6 => ?_
      refine AC_seq fun K7 hK7 => ?_
      refine AC_region ?_
      first | refine AL_ev (Ev_fa_ptr rfl fa36_2 rfl rfl) rfl ?_ | refine AL_ev (Ev_fa_rp rfl fa36_2 rfl rfl) rfl ?_
      first | refine AL_ev (Ev_load_ptr rfl rfl rfl rfl rfl rfl ts3 ta3 rfl (fun _ => rfl)) rfl ?_ | refine AL_ev (Ev_load_rp rfl rfl rfl ts3 ta3 rfl (fun _ => rfl)) rfl ?_
      first | refine AL_ev (Ev_fa_ptr rfl fa36_2 rfl rfl) rfl ?_ | refine AL_ev (Ev_fa_rp rfl fa36_2 rfl rfl) rfl ?_
      first | refine AL_ev (Ev_load_ptr rfl rfl rfl rfl rfl rfl ts3 ta3 rfl (fun _ => rfl)) rfl ?_ | refine AL_ev (Ev_load_rp rfl rfl rfl ts3 ta3 rfl (fun _ => rfl)) rfl ?_
      refine AL_ev (Ev_neq rfl rfl) rfl ?_
      refine AL_nil ?_
      refine hK7 _ _ _ ?_
      refine AC_cond rfl (fun hc3 => ?_) (fun hc3 => ?_)
      · skip
        exact absurd hc3 (by simp)
      · skip
        refine AC_skip ?_
        refine hK6 _ _ _ ?_
        refine AC_seq fun K8 hK8 => ?_
        refine AC_seq fun K9 hK9 => ?_
        refine AC_region ?_
        first | refine AL_ev (Ev_fa_ptr rfl fa36_3 rfl rfl) rfl ?_ | refine AL_ev (Ev_fa_rp rfl fa36_3 rfl rfl) rfl ?_
        first | refine AL_ev (Ev_load_ptr rfl rfl rfl rfl rfl rfl ts34 ta34 rfl (fun _ => rfl)) rfl ?_ | refine AL_ev (Ev_load_rp rfl rfl rfl ts34 ta34 rfl (fun _ => rfl)) rfl ?_
        first | refine AL_ev (Ev_fa_ptr rfl fa36_3 rfl rfl) rfl ?_ | refine AL_ev (Ev_fa_rp rfl fa36_3 rfl rfl) rfl ?_
        first | refine AL_ev (Ev_load_ptr rfl rfl rfl rfl rfl rfl ts34 ta34 rfl (fun _ => rfl)) rfl ?_ | refine AL_ev (Ev_load_rp rfl rfl rfl ts34 ta34 rfl (fun _ => rfl)) rfl ?_
        refine AL_fcall0 hT rfl cl23 (c_eqTermS ks ih) rfl rfl ?_
        refine AL_ev (Ev_not rfl) rfl ?_
        refine AL_nil ?_
        refine hK9 _ _ _ ?_
        refine AC_cond rfl (fun hc4 => ?_) (fun hc4 => ?_)
        · skip
          exact absurd hc4 (by simp)
        · skip
          refine AC_skip ?_
          refine hK8 _ _ _ ?_
          refine AC_seq fun K10 hK10 => ?_
          refine AC_region ?_
          refine AL_ev (Ev_assign) rfl ?_
          refine AL_nil ?_
          refine hK10 _ _ _ ?_
          refine AC_ret ?_
          exact ret_ok hdm (.tmp rfl rfl .nil) (.cons .d .nil) rfl

set_option maxHeartbeats 1000000 in
set_option maxRecDepth 4000 in
theorem c_szTermS (ks : List T) (ih : ∀ u ∈ ks, ∀ l : Int, bulk u ≤ l → l ≤ 1099511627776 → PCall Tryd.prog 9 [inj u, .c (.int .i64 l)] (· = [.c (.int .i64 (l - bulk u))])) (l : Int) (hl0 : ks.length + bulkL ks ≤ l) (hl9 : l ≤ 1099511627776) : PCall Tryd.prog 18 [.sl LT (injs ks), .c (.int .i64 l)] (· = [.c (.int .i64 (l - (ks.length + bulkL ks)))]) := by
  have hbn := bulkL_nn ks
  refine PCall_of (n := 27) Tryd.func18 rfl rfl (Nat.le_of_ble_eq_true rfl) fun C hdm hT0 => ?_
  have hT := hT0
  refine AC_seq fun K1 hK1 => ?_
  refine AC_region ?_
  refine AL_ev (Ev_assign) rfl ?_
  refine AL_nil ?_
  refine hK1 _ _ _ ?_
  refine AC_seq fun K2 hK2 => ?_
  refine AC_region ?_
  refine AL_ev (Ev_move) rfl ?_
  refine AL_ev (Ev_move) rfl ?_
  first | refine AL_lim (x := (Operand.tmp 7)) rfl fun hl1 => ?_ | refine AL_limB (x := (Operand.tmp 7)) rfl rfl (by first | rfl | (simp; done) | (simp; omega)) fun hl1 => ?_ | have hl1 := True.intro
  try simp only [injs_length, ints_length, strs_length, List.length_map] at hl1
  first | refine AL_ev (Ev_len_injs te29 rfl) rfl ?_ | refine AL_ev (Ev_len_sl te29 rfl) rfl ?_ | refine AL_ev (Ev_len_ref te29 rfl) rfl ?_ | refine AL_ev (Ev_len_nil te29 rfl) rfl ?_ | refine AL_ev (Ev_len_c te29 rfl) rfl ?_
  first | refine AL_ev (Ev_sub rfl rfl _ (wrap_id (by first | omega | (simp; omega)) (by first | omega | (simp; omega)))) rfl ?_ | refine AL_ev (Ev_sub rfl rfl _ rfl) rfl ?_
  refine AL_ev (Ev_assign) rfl ?_
  refine AL_nil ?_
  refine hK2 _ _ _ ?_
  refine AC_seq fun K3 hK3 => ?_
  refine AC_seq fun K4 hK4 => ?_
  refine AC_region ?_
  refine AL_ev (Ev_move) rfl ?_
  refine AL_ev (Ev_lss rfl rfl) rfl ?_
  refine AL_nil ?_
  refine hK4 _ _ _ ?_
  refine AC_cond rfl (fun hc1 => ?_) (fun hc1 => ?_)
  · skip
    have : l - (ks.length : Int) < 0 := by simpa using hc1
    omega
  · skip
    refine AC_skip ?_
    refine hK3 _ _ _ ?_
    refine AC_seq fun K5 hK5 => ?_
    refine AC_seq fun K6 hK6 => ?_
    refine AC_region ?_
    refine AL_ev (Ev_assign) rfl ?_
    refine AL_nil ?_
    refine hK6 _ _ _ ?_
    refine AC_block ?_
    refine AC_loopS [0] (Nat) (fun j => [(1, i64 (l - ks.length - bulkL (ks.take j))), (5, i64 j)]) (fun j => []) (fun j => ks.length - j) (fun j => j ≤ ks.length) (0) ?_ ?_ ?_
    · skip
      exact enterS [] rfl rfl BxTo_nil (SlTo_cons (Vw_int (by simp [bulkL])) (SlTo_cons (by first | exact .rd .d | exact .ptr rfl | exact .ref rfl | exact .any | exact Vw_int (by omega)) (SlTo_cons (by first | exact .rd .d | exact .ptr rfl | exact .ref rfl | exact .any | exact Vw_int (by omega)) SlTo_nil)))
    · skip
      exact Nat.zero_le _
    intro j hj
    have hbt := bulkL_take_le ks j
    have hbn2 := bulkL_nn (ks.take j)
    refine AC_seq fun K7 hK7 => ?_
    refine AC_seq fun K8 hK8 => ?_
    refine AC_region ?_
    refine AL_ev (Ev_move) rfl ?_
    refine AL_ev (Ev_move) rfl ?_
    first | refine AL_lim (x := (Operand.tmp 13)) rfl fun hl2 => ?_ | refine AL_limB (x := (Operand.tmp 13)) rfl rfl (by first | rfl | (simp; done) | (simp; omega)) fun hl2 => ?_ | have hl2 := True.intro
    try simp only [injs_length, ints_length, strs_length, List.length_map] at hl2
    first | refine AL_ev (Ev_len_injs te29 rfl) rfl ?_ | refine AL_ev (Ev_len_sl te29 rfl) rfl ?_ | refine AL_ev (Ev_len_ref te29 rfl) rfl ?_ | refine AL_ev (Ev_len_nil te29 rfl) rfl ?_ | refine AL_ev (Ev_len_c te29 rfl) rfl ?_
    refine AL_ev (Ev_lss rfl rfl) rfl ?_
    refine AL_nil ?_
    refine hK8 _ _ _ ?_
    refine AC_cond rfl (fun hc2 => ?_) (fun hc2 => ?_)
    · skip
      have hlt : j < ks.length := by simpa using hc2
      obtain ⟨u, hu⟩ : ∃ u, ks[j]? = some u := ⟨_, List.getElem?_eq_getElem hlt⟩
      have hu2 := injs_get hu
      have hbt2 := bulkL_take_le ks (j + 1)
      rw [bulkL_take hu] at hbt2
      refine AC_skip ?_
      refine hK7 _ _ _ ?_
      refine AC_seq fun K9 hK9 => ?_
      refine AC_block ?_
      refine AC_seq fun K10 hK10 => ?_
      refine AC_region ?_
      refine AL_ev (Ev_move) rfl ?_
      refine AL_ev (Ev_move) rfl ?_
      first | refine AL_ev (Ev_ix_sl rfl rfl te29 ts31 (by omega) (by assumption)) rfl ?_ | refine AL_ev (Ev_ix_ref rfl rfl te29 ts31 (by omega) (by first | omega | (simp; omega))) rfl ?_
      first | refine AL_ev (Ev_load_ptr rfl rfl rfl rfl rfl rfl ts31 ta31 (by first | rfl | simp) (by intro h; cases h)) rfl ?_ | refine AL_ev (Ev_load_rp rfl rfl rfl ts31 ta31 (by first | rfl | simp) (by intro h; cases h)) rfl ?_
      refine AL_ev (Ev_move) rfl ?_
      refine AL_fcall0 hT rfl cl9 (ih u (List.mem_of_getElem? hu) (l - ks.length - bulkL (ks.take j)) (by omega) (by omega)) rfl rfl ?_
      refine AL_ev (Ev_assign) rfl ?_
      refine AL_nil ?_
      refine hK10 _ _ _ ?_
      refine AC_seq fun K11 hK11 => ?_
      refine AC_region ?_
      refine AL_ev (Ev_move) rfl ?_
      refine AL_ev (Ev_lss rfl rfl) rfl ?_
      refine AL_nil ?_
      refine hK11 _ _ _ ?_
      refine AC_cond rfl (fun hc3 => ?_) (fun hc3 => ?_)
      · skip
        have : l - ks.length - bulkL (ks.take j) - bulk u < 0 := by simpa using hc3
        omega
      · skip
        refine AC_skip ?_
        refine hK9 _ _ _ ?_
        refine AC_region ?_
        refine AL_ev (Ev_move) rfl ?_
        first | refine AL_ev (Ev_add rfl rfl _ (wrap_id (by first | omega | (simp; omega)) (by first | omega | (simp; omega)))) rfl ?_ | refine AL_ev (Ev_add rfl rfl _ rfl) rfl ?_
        refine AL_ev (Ev_assign) rfl ?_
        refine AL_nil ?_
        refine closeS (j + 1) [] rfl rfl (by show ks.length - (j + 1) < ks.length - j; omega) hlt BxTo_nil (SlTo_cons (Vw_int (by rw [bulkL_take hu]; omega)) (SlTo_cons (Vw_int (by omega)) (SlTo_cons (by first | exact .rd .d | exact .ptr rfl | exact .ref rfl | exact .any | exact Vw_int (by omega)) SlTo_nil)))
    · skip
      refine AC_exit ?_
      refine hK5 _ _ _ ?_
      refine AC_seq fun K12 hK12 => ?_
      refine AC_region ?_
      refine AL_ev (Ev_move) rfl ?_
      refine AL_ev (Ev_assign) rfl ?_
      refine AL_nil ?_
      refine hK12 _ _ _ ?_
      refine AC_ret ?_
      have hj2 : j = ks.length := by
        have : ¬ j < ks.length := by simpa using hc2
        omega
      subst hj2
      exact ret_ok hdm (.tmp rfl rfl .nil) (.cons .d .nil) (by rw [List.take_length]; congr 3; omega)

set_option maxHeartbeats 1000000 in
set_option maxRecDepth 4000 in
theorem c_szTerm (t : T) : ∀ l : Int, bulk t ≤ l → l ≤ 1099511627776 → PCall Tryd.prog 9 [inj t, .c (.int .i64 l)] (· = [.c (.int .i64 (l - bulk t))]) := by
  induction t using T.ind with | h k s m ks ih => ?_
  intro l hl0 hl9
  have hl1 : (s.size : Int) + bulkS ks ≤ l := by simpa only [bulk] using hl0
  rw [bulkS_eq] at hl1
  have hbn := bulkL_nn ks
  refine PCall_of (n := 19) Tryd.func9 rfl rfl (Nat.le_of_ble_eq_true rfl) fun C hdm hT0 => ?_
  have hT := hT0
  refine AC_seq fun K1 hK1 => ?_
  refine AC_region ?_
  refine AL_box (Lay.st [.one, .one, .one, .one]) (nf rfl) rfl (by first | rfl | simp [Lay.len, Lay.lens]) _ rfl rfl ?_
  refine AL_ev (Ev_assign) rfl ?_
  refine AL_nil ?_
  refine hK1 _ _ _ ?_
  refine AC_seq fun K2 hK2 => ?_
  refine AC_region ?_
  refine AL_ev (Ev_move) rfl ?_
  first | refine AL_ev (Ev_fa_ptr rfl fa31_1 rfl rfl) rfl ?_ | refine AL_ev (Ev_fa_rp rfl fa31_1 rfl rfl) rfl ?_
  first | refine AL_ev (Ev_load_ptr rfl rfl rfl rfl rfl rfl ts9 ta9 rfl (fun _ => rfl)) rfl ?_ | refine AL_ev (Ev_load_rp rfl rfl rfl ts9 ta9 rfl (fun _ => rfl)) rfl ?_
  refine AL_ev (Ev_len_str tstr9 rfl) rfl ?_
  first | refine AL_ev (Ev_sub rfl rfl _ (wrap_id (by first | omega | (simp; omega)) (by first | omega | (simp; omega)))) rfl ?_ | refine AL_ev (Ev_sub rfl rfl _ rfl) rfl ?_
  refine AL_ev (Ev_assign) rfl ?_
  refine AL_nil ?_
  refine hK2 _ _ _ ?_
  refine AC_seq fun K3 hK3 => ?_
  refine AC_seq fun K4 hK4 => ?_
  refine AC_region ?_
  refine AL_ev (Ev_move) rfl ?_
  refine AL_ev (Ev_lss rfl rfl) rfl ?_
  refine AL_nil ?_
  refine hK4 _ _ _ ?_
  refine AC_cond rfl (fun hc1 => ?_) (fun hc1 => ?_)
  · skip
    have : l - (s.size : Int) < 0 := by simpa using hc1
    omega
  · skip
    refine AC_skip ?_
    refine hK3 _ _ _ ?_
    refine AC_seq fun K5 hK5 => ?_
    refine AC_region ?_
    first | refine AL_ev (Ev_fa_ptr rfl fa31_3 rfl rfl) rfl ?_ | refine AL_ev (Ev_fa_rp rfl fa31_3 rfl rfl) rfl ?_
    first | refine AL_ev (Ev_load_ptr rfl rfl rfl rfl rfl rfl ts29 ta29 rfl (fun _ => rfl)) rfl ?_ | refine AL_ev (Ev_load_rp rfl rfl rfl ts29 ta29 rfl (fun _ => rfl)) rfl ?_
    refine AL_ev (Ev_move) rfl ?_
    refine AL_fcall0 hT rfl cl18 (c_szTermS ks ih (l - s.size) (by omega) (by omega)) rfl rfl ?_
    refine AL_ev (Ev_assign) rfl ?_
    refine AL_nil ?_
    refine hK5 _ _ _ ?_
    refine AC_seq fun K6 hK6 => ?_
    refine AC_seq fun K7 hK7 => ?_
    refine AC_region ?_
    refine AL_ev (Ev_move) rfl ?_
    refine AL_ev (Ev_lss rfl rfl) rfl ?_
    refine AL_nil ?_
    refine hK7 _ _ _ ?_
    refine AC_cond rfl (fun hc2 => ?_) (fun hc2 => ?_)
    · skip
      have : l - (s.size : Int) - (ks.length + bulkL ks) < 0 := by simpa using hc2
      omega
    · skip
      refine AC_skip ?_
      refine hK6 _ _ _ ?_
      refine AC_seq fun K8 hK8 => ?_
      refine AC_region ?_
      refine AL_ev (Ev_move) rfl ?_
      refine AL_ev (Ev_assign) rfl ?_
      refine AL_nil ?_
      refine hK8 _ _ _ ?_
      refine AC_ret ?_
      exact ret_ok hdm (.tmp rfl rfl .nil) (.cons .d .nil) (by simp only [bulk, bulkS_eq]; congr 3; omega)

end Go.Proofs.YtohpcnagkpikjaaDoor
