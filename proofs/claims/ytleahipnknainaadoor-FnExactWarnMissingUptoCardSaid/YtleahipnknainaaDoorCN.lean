/- Contracts of functions. -/
import Derived.Test.YtleahipnknainaaDoorMt
import Derived.Test.YtleahipnknainaaDoorOk
import Derived.Test.YtleahipnknainaaDoorWn
import Derived.Test.YtleahipnknainaaDoorEng27
import Derived.Test.YtleahipnknainaaDoorWs
import Derived.Test.YtleahipnknainaaDoorTy
import Derived.Test.YtleahipnknainaaDoorCL
set_option linter.unusedVariables false
set_option linter.unusedSimpArgs false
namespace Go.Proofs.YtleahipnknainaaDoor
open Go.Eng

set_option maxHeartbeats 1000000 in
set_option maxRecDepth 4000 in
theorem c_eqWarning (w : Wn) : PCall Tryd.prog 81 [injW w, injW w] (· = [.c (.bool true)]) := by
  obtain ⟨k, a, t⟩ := w
  refine PCall_of (n := 20) Tryd.func81 rfl rfl (Nat.le_of_ble_eq_true rfl) fun C hdm hT0 => ?_
  have hT := hT0
  refine AC_seq fun K1 hK1 => ?_
  refine AC_region ?_
  refine AL_box (Lay.st [.one, .one, .one]) (nf rfl) rfl (by first | rfl | simp [Lay.len, Lay.lens]) _ rfl rfl ?_
  refine AL_box (Lay.st [.one, .one, .one]) (nf rfl) rfl (by first | rfl | simp [Lay.len, Lay.lens]) _ rfl rfl ?_
  refine AL_ev (Ev_assign) rfl ?_
  refine AL_nil ?_
  refine hK1 _ _ _ ?_
  refine AC_seq fun K2 hK2 => ?_
  refine AC_seq fun K3 hK3 => ?_
  refine AC_region ?_
  first | refine AL_ev (Ev_fa_ptr rfl fa84_0 rfl rfl) rfl ?_ | refine AL_ev (Ev_fa_rp rfl fa84_0 rfl rfl) rfl ?_
  first | refine AL_ev (Ev_load_ptr rfl rfl rfl rfl rfl rfl ts3 ta3 rfl (fun _ => rfl)) rfl ?_ | refine AL_ev (Ev_load_rp rfl rfl rfl ts3 ta3 rfl (fun _ => rfl)) rfl ?_
  first | refine AL_ev (Ev_fa_ptr rfl fa84_0 rfl rfl) rfl ?_ | refine AL_ev (Ev_fa_rp rfl fa84_0 rfl rfl) rfl ?_
  first | refine AL_ev (Ev_load_ptr rfl rfl rfl rfl rfl rfl ts3 ta3 rfl (fun _ => rfl)) rfl ?_ | refine AL_ev (Ev_load_rp rfl rfl rfl ts3 ta3 rfl (fun _ => rfl)) rfl ?_
  refine AL_ev (Ev_neq rfl rfl) rfl ?_
  refine AL_nil ?_
  refine hK3 _ _ _ ?_
  refine AC_cond rfl (fun hc1 => ?_) (fun hc1 => ?_)
  · skip
    exact absurd hc1 (by simp)
  · skip
    refine AC_skip ?_
    refine hK2 _ _ _ ?_
    refine AC_seq fun K4 hK4 => ?_
    refine AC_seq fun K5 hK5 => ?_
    refine AC_region ?_
    first | refine AL_ev (Ev_fa_ptr rfl fa84_1 rfl rfl) rfl ?_ | refine AL_ev (Ev_fa_rp rfl fa84_1 rfl rfl) rfl ?_
    first | refine AL_ev (Ev_load_ptr rfl rfl rfl rfl rfl rfl ts3 ta3 rfl (fun _ => rfl)) rfl ?_ | refine AL_ev (Ev_load_rp rfl rfl rfl ts3 ta3 rfl (fun _ => rfl)) rfl ?_
    first | refine AL_ev (Ev_fa_ptr rfl fa84_1 rfl rfl) rfl ?_ | refine AL_ev (Ev_fa_rp rfl fa84_1 rfl rfl) rfl ?_
    first | refine AL_ev (Ev_load_ptr rfl rfl rfl rfl rfl rfl ts3 ta3 rfl (fun _ => rfl)) rfl ?_ | refine AL_ev (Ev_load_rp rfl rfl rfl ts3 ta3 rfl (fun _ => rfl)) rfl ?_
    refine AL_ev (Ev_neq rfl rfl) rfl ?_
    refine AL_nil ?_
    refine hK5 _ _ _ ?_
    refine AC_cond rfl (fun hc2 => ?_) (fun hc2 => ?_)
    · skip
      exact absurd hc2 (by simp)
    · skip
      refine AC_skip ?_
      refine hK4 _ _ _ ?_
      refine AC_seq fun K6 hK6 => ?_
      refine AC_seq fun K7 hK7 => ?_
      refine AC_region ?_
      first | refine AL_ev (Ev_fa_ptr rfl fa84_2 rfl rfl) rfl ?_ | refine AL_ev (Ev_fa_rp rfl fa84_2 rfl rfl) rfl ?_
      first | refine AL_ev (Ev_load_ptr rfl rfl rfl rfl rfl rfl ts9 ta9 rfl (fun _ => rfl)) rfl ?_ | refine AL_ev (Ev_load_rp rfl rfl rfl ts9 ta9 rfl (fun _ => rfl)) rfl ?_
      first | refine AL_ev (Ev_fa_ptr rfl fa84_2 rfl rfl) rfl ?_ | refine AL_ev (Ev_fa_rp rfl fa84_2 rfl rfl) rfl ?_
      first | refine AL_ev (Ev_load_ptr rfl rfl rfl rfl rfl rfl ts9 ta9 rfl (fun _ => rfl)) rfl ?_ | refine AL_ev (Ev_load_rp rfl rfl rfl ts9 ta9 rfl (fun _ => rfl)) rfl ?_
      refine AL_ev (Ev_sneq rfl rfl) rfl ?_
      refine AL_nil ?_
      refine hK7 _ _ _ ?_
      refine AC_cond rfl (fun hc3 => ?_) (fun hc3 => ?_)
      · skip
        exact absurd hc3 (by simp)
      · skip
        refine AC_skip ?_
        refine hK6 _ _ _ ?_
        refine AC_seq fun K8 hK8 => ?_
        refine AC_region ?_
        refine AL_ev (Ev_assign) rfl ?_
        refine AL_nil ?_
        refine hK8 _ _ _ ?_
        refine AC_ret ?_
        exact ret_ok hdm (.tmp rfl rfl .nil) (.cons .d .nil) rfl

set_option maxHeartbeats 1000000 in
set_option maxRecDepth 4000 in
theorem c_eqWarningS (xs : List Wn) : PCall Tryd.prog 37 [.sl LW (injWs xs), .sl LW (injWs xs)] (· = [.c (.bool true)]) := by
  refine PCall_of (n := 27) Tryd.func37 rfl rfl (Nat.le_of_ble_eq_true rfl) fun C hdm hT0 => ?_
  have hT := hT0
  refine AC_seq fun K1 hK1 => ?_
  refine AC_region ?_
  refine AL_ev (Ev_assign) rfl ?_
  refine AL_nil ?_
  refine hK1 _ _ _ ?_
  refine AC_seq fun K2 hK2 => ?_
  refine AC_seq fun K3 hK3 => ?_
  refine AC_region ?_
  refine AL_ev (Ev_move) rfl ?_
  first | refine AL_lim (x := (Operand.tmp 6)) rfl fun hl1 => ?_ | refine AL_limB (x := (Operand.tmp 6)) rfl rfl (by first | rfl | (simp; done) | (simp; omega)) fun hl1 => ?_ | have hl1 := True.intro
  try simp only [injs_length, ints_length, strs_length, injCs_length, List.length_map] at hl1
  first | refine AL_ev (Ev_len_sl te53 rfl) rfl ?_ | refine AL_ev (Ev_len_ref te53 rfl) rfl ?_ | refine AL_ev (Ev_len_nil te53 rfl) rfl ?_ | refine AL_ev (Ev_len_c te53 rfl) rfl ?_
  refine AL_ev (Ev_move) rfl ?_
  first | refine AL_lim (x := (Operand.tmp 8)) rfl fun hl2 => ?_ | refine AL_limB (x := (Operand.tmp 8)) rfl rfl (by first | rfl | (simp; done) | (simp; omega)) fun hl2 => ?_ | have hl2 := True.intro
  try simp only [injs_length, ints_length, strs_length, injCs_length, List.length_map] at hl2
  first | refine AL_ev (Ev_len_sl te53 rfl) rfl ?_ | refine AL_ev (Ev_len_ref te53 rfl) rfl ?_ | refine AL_ev (Ev_len_nil te53 rfl) rfl ?_ | refine AL_ev (Ev_len_c te53 rfl) rfl ?_
  refine AL_ev (Ev_neq rfl rfl) rfl ?_
  refine AL_nil ?_
  refine hK3 _ _ _ ?_
  refine AC_cond rfl (fun hc1 => ?_) (fun hc1 => ?_)
  · skip
    exact absurd hc1 (by simp)
  · skip
    refine AC_skip ?_
    refine hK2 _ _ _ ?_
    refine AC_seq fun K4 hK4 => ?_
    refine AC_seq fun K5 hK5 => ?_
    refine AC_region ?_
    refine AL_ev (Ev_assign) rfl ?_
    refine AL_nil ?_
    refine hK5 _ _ _ ?_
    refine AC_block ?_
    refine AC_loopS [0, 1] (Nat) (fun j => [(5, i64 j)]) (fun j => []) (fun st => xs.length - st) (fun j => j ≤ xs.length ∧ True) (0) ?_ ?_ ?_
    · skip
      exact enterS [] rfl rfl BxTo_nil (SlTo_cons (by first | exact .rd .d | exact Vw_int (by first | rfl | assumption | omega | (simp; done) | (simp; omega)) | exact Vw_c (by first | rfl | (simp; done) | simp_all) | exact .any) (SlTo_cons (by first | exact .rd .d | exact .any) (SlTo_cons (by first | exact .rd .d | exact .any) SlTo_nil)))
    · skip
      exact ⟨Nat.zero_le _, trivial⟩
    rintro j ⟨hj, hI⟩
    show AC _ _ _ _ _ (FS [0, 1] _ [(5, i64 j)]) []
    refine AC_seq fun K6 hK6 => ?_
    refine AC_seq fun K7 hK7 => ?_
    refine AC_region ?_
    refine AL_ev (Ev_move) rfl ?_
    refine AL_ev (Ev_move) rfl ?_
    first | refine AL_lim (x := (Operand.tmp 12)) rfl fun hl3 => ?_ | refine AL_limB (x := (Operand.tmp 12)) rfl rfl (by first | rfl | (simp; done) | (simp; omega)) fun hl3 => ?_ | have hl3 := True.intro
    try simp only [injs_length, ints_length, strs_length, injCs_length, List.length_map] at hl3
    first | refine AL_ev (Ev_len_sl te53 rfl) rfl ?_ | refine AL_ev (Ev_len_ref te53 rfl) rfl ?_ | refine AL_ev (Ev_len_nil te53 rfl) rfl ?_ | refine AL_ev (Ev_len_c te53 rfl) rfl ?_
    refine AL_ev (Ev_lss rfl rfl) rfl ?_
    refine AL_nil ?_
    refine hK7 _ _ _ ?_
    refine AC_cond rfl (fun hc2 => ?_) (fun hc2 => ?_)
    · skip
      have hlt : j < xs.length := by simpa using hc2
      obtain ⟨u, hu⟩ : ∃ x, xs[j]? = some x := ⟨_, List.getElem?_eq_getElem hlt⟩
      have hu2 := injWs_get hu
      have hdr := drop_get hu
      have hl9 : xs.length ≤ 1099511627776 := by simpa using hl1
      refine AC_skip ?_
      refine hK6 _ _ _ ?_
      refine AC_seq fun K8 hK8 => ?_
      refine AC_block ?_
      refine AC_seq fun K9 hK9 => ?_
      refine AC_draw hT follows [0, 1, 2, 3, 4, 5, 6, 7, 8, 9] (by kernel_rfl) ?_
      refine DT_ev rfl (EA_move) rfl ?_
      refine DT_ev rfl (EA_move) rfl ?_
      first | refine DT_ev rfl (EA_ix_sl rfl rfl te53 ts84 (by omega) (by assumption)) rfl ?_ | refine DT_ev rfl (EA_ix_ref rfl rfl te53 ts84 (by omega) (by first | omega | (simp; omega))) rfl ?_
      first | refine DT_ev rfl (EA_load_ptr rfl rfl rfl rfl rfl rfl ts84 ta84 (by first | rfl | simp) (by intro h; cases h)) rfl ?_ | refine DT_ev rfl (EA_load_rp rfl rfl rfl ts84 ta84 (by first | rfl | simp) (by intro h; cases h)) rfl ?_
      refine DT_ev rfl (EA_move) rfl ?_
      refine DT_ev rfl (EA_move) rfl ?_
      first | refine DT_ev rfl (EA_ix_sl rfl rfl te53 ts84 (by omega) (by assumption)) rfl ?_ | refine DT_ev rfl (EA_ix_ref rfl rfl te53 ts84 (by omega) (by first | omega | (simp; omega))) rfl ?_
      first | refine DT_ev rfl (EA_load_ptr rfl rfl rfl rfl rfl rfl ts84 ta84 (by first | rfl | simp) (by intro h; cases h)) rfl ?_ | refine DT_ev rfl (EA_load_rp rfl rfl rfl ts84 ta84 (by first | rfl | simp) (by intro h; cases h)) rfl ?_
      refine DT_fcall0 rfl rfl cl81 (c_eqWarning u) rfl rfl ?_
      refine DT_ev rfl (EA_not rfl) rfl ?_
      refine DTi.nil ?_
      refine hK9 _ _ _ ?_
      refine AC_cond rfl (fun hc3 => ?_) (fun hc3 => ?_)
      · skip
        exact absurd hc3 (by simp)
      · skip
        refine AC_skip ?_
        refine hK8 _ _ _ ?_
        refine AC_region ?_
        refine AL_ev (Ev_move) rfl ?_
        first | refine AL_ev (Ev_add rfl rfl _ (wrap_id (by first | omega | (simp; omega)) (by first | omega | (simp; omega)))) rfl ?_ | refine AL_ev (Ev_add rfl rfl _ rfl) rfl ?_
        refine AL_ev (Ev_assign) rfl ?_
        refine AL_nil ?_
        refine closeS (j + 1) [] rfl rfl (by show xs.length - (j + 1) < xs.length - j; omega) ⟨hlt, ?_⟩ BxTo_nil (SlTo_cons (by first | exact .rd .d | exact Vw_int (by first | rfl | assumption | omega | (simp; done) | (simp; omega)) | exact Vw_c (by first | rfl | (simp; done) | simp_all) | exact .any) (SlTo_cons (by first | exact .rd .d | exact .any) (SlTo_cons (by first | exact .rd .d | exact .any) SlTo_nil)))
        trivial
    · skip
      have hj2 : j = xs.length := by
        have : ¬ j < xs.length := by simpa using hc2
        omega
      subst hj2
      refine AC_exit ?_
      refine hK4 _ _ _ ?_
      refine AC_seq fun K10 hK10 => ?_
      refine AC_region ?_
      refine AL_ev (Ev_assign) rfl ?_
      refine AL_nil ?_
      refine hK10 _ _ _ ?_
      refine AC_ret ?_
      exact ret_ok hdm (.tmp rfl rfl .nil) (.cons .d .nil) rfl

set_option maxHeartbeats 1000000 in
set_option maxRecDepth 4000 in
theorem c_markWarningS (xs : List Wn) (k : Int) (hk0 : 0 ≤ k) (hk9 : k + 3 * xs.length ≤ 1099511627776) : MCall Tryd.prog 38 (.sl LW (injWs xs)) (k) (.sl LW (injWs (marksW k xs.length))) (k + 3 * xs.length) := by
  refine MCall_of (n := 35) .one Tryd.func38 rfl rfl (by decide) rfl rfl fun C0 cs K hdm hh hcl => ?_
  rcases open_warns hh with ⟨rfl, rfl, rfl⟩ | ⟨b, Cp, tail, ty, rfl, rfl, hB0, hlen, hcc, hcp, hlm⟩
  · skip
    skip
    refine AC_seq fun K1 hK1 => ?_
    refine AC_region ?_
    refine AL_ev (Ev_assign) rfl ?_
    refine AL_nil ?_
    refine hK1 _ _ _ ?_
    refine AC_seq fun K2 hK2 => ?_
    refine AC_seq fun K3 hK3 => ?_
    refine AC_region ?_
    refine AL_ev (Ev_assign) rfl ?_
    refine AL_nil ?_
    refine hK3 _ _ _ ?_
    refine AC_block ?_
    refine AC_loopS [0, 1] (Nat) (fun j => [(5, i64 0)]) (fun j => []) (fun j => j) (fun j => True) (0) ?_ ?_ ?_
    · skip
      exact enterS [] rfl rfl BxTo_nil (SlTo_cons (by first | exact .rd .d | exact .ptr rfl | exact .ref rfl | exact .any | exact Vw_int (by omega)) (SlTo_cons (by first | exact .rd .d | exact .ptr rfl | exact .ref rfl | exact .any | exact Vw_int (by omega)) (SlTo_cons (by first | exact .rd .d | exact .ptr rfl | exact .ref rfl | exact .any | exact Vw_int (by omega)) SlTo_nil)))
    · skip
      trivial
    intro j _
    refine AC_seq fun K4 hK4 => ?_
    refine AC_seq fun K5 hK5 => ?_
    refine AC_region ?_
    refine AL_ev (Ev_move) rfl ?_
    refine AL_ev (Ev_move) rfl ?_
    first | refine AL_lim (x := (Operand.tmp 7)) rfl fun hl1 => ?_ | refine AL_limB (x := (Operand.tmp 7)) rfl rfl (by first | rfl | (simp; done) | (simp; omega)) fun hl1 => ?_ | have hl1 := True.intro
    try simp only [injs_length, ints_length, strs_length, injCs_length, List.length_map] at hl1
    first | refine AL_ev (Ev_len_sl te53 rfl) rfl ?_ | refine AL_ev (Ev_len_ref te53 rfl) rfl ?_ | refine AL_ev (Ev_len_nil te53 rfl) rfl ?_ | refine AL_ev (Ev_len_c te53 rfl) rfl ?_
    refine AL_ev (Ev_lss rfl rfl) rfl ?_
    refine AL_nil ?_
    refine hK5 _ _ _ ?_
    refine AC_cond rfl (fun hc1 => ?_) (fun hc1 => ?_)
    · skip
      exact absurd hc1 (by simp)
    · skip
      refine AC_exit ?_
      refine hK2 _ _ _ ?_
      refine AC_seq fun K6 hK6 => ?_
      refine AC_region ?_
      refine AL_ev (Ev_move) rfl ?_
      refine AL_ev (Ev_assign) rfl ?_
      refine AL_nil ?_
      refine hK6 _ _ _ ?_
      refine AC_ret ?_
      rw [show k + 3 * (([] : List Wn).length : Int) = k by simp]
      exact retM_ok (Mk.refl C0 []) hdm (.tmp rfl rfl .nil) (by simpa [marksW] using hh)
  · skip
    have hlm9 : xs.length ≤ 1099511627776 := hlm
    refine AC_seq fun K1 hK1 => ?_
    refine AC_region ?_
    refine AL_ev (Ev_assign) rfl ?_
    refine AL_nil ?_
    refine hK1 _ _ _ ?_
    refine AC_seq fun K2 hK2 => ?_
    refine AC_seq fun K3 hK3 => ?_
    refine AC_region ?_
    refine AL_ev (Ev_assign) rfl ?_
    refine AL_nil ?_
    refine hK3 _ _ _ ?_
    refine AC_block ?_
    refine AC_loopX (Nat) (fun j => [(1, i64 (k + 3 * j)), (5, i64 j)]) (fun j => []) (fun j => xs.length - j) (fun C j => j ≤ xs.length ∧ Mk C0 [b] C ∧ Blk C b (rowsW (marksW k j ++ xs.drop j) ++ tail) ty ∧ (rowsW (marksW k j ++ xs.drop j) ++ tail).length = Cp * 3) [0] ?_ ?_
    · skip
      exact enterX 0 [] rfl rfl ⟨Nat.zero_le _, Mk.refl _ _, by simpa [marksW] using hB0, by simpa [marksW] using hlen⟩ BxTo_nil (SlTo_cons (Vw_int (by simp)) (SlTo_cons (by first | exact .rd .d | exact .ptr rfl | exact .ref rfl | exact .any | exact Vw_int (by omega)) (SlTo_cons (by first | exact .rd .d | exact .ptr rfl | exact .ref rfl | exact .any | exact Vw_int (by omega)) SlTo_nil)))
    rintro CL j ⟨hj, hM, hB, hcl⟩
    refine AC_seq fun K4 hK4 => ?_
    refine AC_seq fun K5 hK5 => ?_
    refine AC_region ?_
    refine AL_ev (Ev_move) rfl ?_
    refine AL_ev (Ev_move) rfl ?_
    first | refine AL_lim (x := (Operand.tmp 7)) rfl fun hl1 => ?_ | refine AL_limB (x := (Operand.tmp 7)) rfl rfl (by first | rfl | (simp; done) | (simp; omega)) fun hl1 => ?_ | have hl1 := True.intro
    try simp only [injs_length, ints_length, strs_length, injCs_length, List.length_map] at hl1
    first | refine AL_ev (Ev_len_sl te53 rfl) rfl ?_ | refine AL_ev (Ev_len_ref te53 rfl) rfl ?_ | refine AL_ev (Ev_len_nil te53 rfl) rfl ?_ | refine AL_ev (Ev_len_c te53 rfl) rfl ?_
    refine AL_ev (Ev_lss rfl rfl) rfl ?_
    refine AL_nil ?_
    refine hK5 _ _ _ ?_
    refine AC_cond rfl (fun hc1 => ?_) (fun hc1 => ?_)
    · skip
      have hlt : j < xs.length := by simpa using hc1
      obtain ⟨u, hu⟩ : ∃ u, xs[j]? = some u := ⟨_, List.getElem?_eq_getElem hlt⟩
      rw [drop_get hu] at hB hcl
      have ie0 : 0 + ((j : Nat) : Int).toNat * 3 + 0 = 3 * (marksW k j).length + 0 := by rw [marksW_length]; exact ixe1 j 3 0
      have ie1 : 0 + ((j : Nat) : Int).toNat * 3 + 1 = 3 * (marksW k j).length + 1 := by rw [marksW_length]; exact ixe1 j 3 1
      have ie2 : 0 + ((j : Nat) : Int).toNat * 3 + 2 = 3 * (marksW k j).length + 2 := by rw [marksW_length]; exact ixe1 j 3 2
      refine AC_skip ?_
      refine hK4 _ _ _ ?_
      refine AC_seq fun K6 hK6 => ?_
      refine AC_block ?_
      refine AC_seq fun K7 hK7 => ?_
      refine AC_region ?_
      refine AL_ev (Ev_move) rfl ?_
      refine AL_ev (Ev_move) rfl ?_
      refine AL_ev (Ev_move) rfl ?_
      refine AL_ev (Ev_ix_raw rfl rfl te53 ts84 (by omega) (by first | omega | (simp; omega))) rfl ?_
      refine AL_ev (Ev_fa_raw rfl fa84_0) rfl ?_
      refine AL_rstore rfl rfl hB (by rw [hcl]; omega) ts3 (by first | rfl | assumption) rfl fun D1 hk1 hb1 => ?_
      have hM := hM.trans hk1 (fun x hx _ => hx)
      have hB := hb1.cast ((congrArg (fun o => List.set _ o _) ie0).trans (rowsW_set0 (marksW k j) u (xs.drop (j + 1)) tail (k + 3 * j)))
      have hcl : (rowsW (marksW k j ++ ⟨k + 3 * j, u.a, u.t⟩ :: xs.drop (j + 1)) ++ tail).length = Cp * 3 := by rw [List.length_append, rowsW_length] at hcl ⊢; simpa using hcl
      clear hb1 hk1
      refine AL_nil ?_
      refine hK7 _ _ _ ?_
      refine AC_seq fun K8 hK8 => ?_
      refine AC_region ?_
      refine AL_ev (Ev_move) rfl ?_
      first | refine AL_ev (Ev_add rfl rfl _ (wrap_id (by first | omega | (simp; omega)) (by first | omega | (simp; omega)))) rfl ?_ | refine AL_ev (Ev_add rfl rfl _ rfl) rfl ?_
      refine AL_ev (Ev_assign) rfl ?_
      refine AL_nil ?_
      refine hK8 _ _ _ ?_
      refine AC_seq fun K9 hK9 => ?_
      refine AC_region ?_
      refine AL_ev (Ev_move) rfl ?_
      refine AL_ev (Ev_move) rfl ?_
      refine AL_ev (Ev_move) rfl ?_
      refine AL_ev (Ev_ix_raw rfl rfl te53 ts84 (by omega) (by first | omega | (simp; omega))) rfl ?_
      refine AL_ev (Ev_fa_raw rfl fa84_1) rfl ?_
      refine AL_rstore rfl rfl hB (by rw [hcl]; omega) ts3 (by first | rfl | assumption) rfl fun D2 hk2 hb2 => ?_
      have hM := hM.trans hk2 (fun x hx _ => hx)
      have hB := hb2.cast ((congrArg (fun o => List.set _ o _) ie1).trans (rowsW_set1 (marksW k j) ⟨k + 3 * j, u.a, u.t⟩ (xs.drop (j + 1)) tail (k + 3 * j + 1)))
      have hcl : (rowsW (marksW k j ++ ⟨k + 3 * j, k + 3 * j + 1, u.t⟩ :: xs.drop (j + 1)) ++ tail).length = Cp * 3 := by rw [List.length_append, rowsW_length] at hcl ⊢; simpa using hcl
      clear hb2 hk2
      refine AL_nil ?_
      refine hK9 _ _ _ ?_
      refine AC_seq fun K10 hK10 => ?_
      refine AC_region ?_
      refine AL_ev (Ev_move) rfl ?_
      first | refine AL_ev (Ev_add rfl rfl _ (wrap_id (by first | omega | (simp; omega)) (by first | omega | (simp; omega)))) rfl ?_ | refine AL_ev (Ev_add rfl rfl _ rfl) rfl ?_
      refine AL_ev (Ev_assign) rfl ?_
      refine AL_nil ?_
      refine hK10 _ _ _ ?_
      refine AC_seq fun K11 hK11 => ?_
      refine AC_region ?_
      refine AL_ev (Ev_move) rfl ?_
      refine AL_ev (Ev_move) rfl ?_
      refine AL_ev (Ev_move) rfl ?_
      refine AL_fcallz rfl cl66 (c_markText (k + 3 * j + 1 + 1) (by omega)) rfl rfl ?_
      refine AL_ev (Ev_ix_raw rfl rfl te53 ts84 (by omega) (by first | omega | (simp; omega))) rfl ?_
      refine AL_ev (Ev_fa_raw rfl fa84_2) rfl ?_
      refine AL_rstore rfl rfl hB (by rw [hcl]; omega) ts9 (by first | rfl | assumption) rfl fun D3 hk3 hb3 => ?_
      have hM := hM.trans hk3 (fun x hx _ => hx)
      have hB := hb3.cast ((congrArg (fun o => List.set _ o _) ie2).trans (rowsW_set2 (marksW k j) ⟨k + 3 * j, k + 3 * j + 1, u.t⟩ (xs.drop (j + 1)) tail (mtext (k + 3 * j + 1 + 1))))
      have hcl : (rowsW (marksW k j ++ ⟨k + 3 * j, k + 3 * j + 1, mtext (k + 3 * j + 1 + 1)⟩ :: xs.drop (j + 1)) ++ tail).length = Cp * 3 := by rw [List.length_append, rowsW_length] at hcl ⊢; simpa using hcl
      clear hb3 hk3
      refine AL_nil ?_
      refine hK11 _ _ _ ?_
      refine AC_region ?_
      refine AL_ev (Ev_move) rfl ?_
      first | refine AL_ev (Ev_add rfl rfl _ (wrap_id (by first | omega | (simp; omega)) (by first | omega | (simp; omega)))) rfl ?_ | refine AL_ev (Ev_add rfl rfl _ rfl) rfl ?_
      refine AL_ev (Ev_assign) rfl ?_
      refine AL_nil ?_
      refine hK6 _ _ _ ?_
      refine AC_region ?_
      refine AL_ev (Ev_move) rfl ?_
      first | refine AL_ev (Ev_add rfl rfl _ (wrap_id (by first | omega | (simp; omega)) (by first | omega | (simp; omega)))) rfl ?_ | refine AL_ev (Ev_add rfl rfl _ rfl) rfl ?_
      refine AL_ev (Ev_assign) rfl ?_
      refine AL_nil ?_
      have hms : marksW k j ++ ⟨k + 3 * j, k + 3 * j + 1, mtext (k + 3 * j + 1 + 1)⟩ :: xs.drop (j + 1) = marksW k (j + 1) ++ xs.drop (j + 1) := by rw [marksW_succ, List.append_assoc, show k + 3 * (j : Int) + 1 + 1 = k + 3 * j + 2 by omega]; rfl
      rw [hms] at hB hcl
      refine closeX (j + 1) [] rfl rfl (by show xs.length - (j + 1) < xs.length - j; omega) ⟨hlt, hM, hB, hcl⟩ BxTo_nil (SlTo_cons (Vw_int (by push_cast; omega)) (SlTo_cons (Vw_int (by omega)) (SlTo_cons (by first | exact .rd .d | exact .ptr rfl | exact .ref rfl | exact .any | exact Vw_int (by omega)) SlTo_nil)))
    · skip
      refine AC_exit ?_
      refine hK2 _ _ _ ?_
      refine AC_seq fun K12 hK12 => ?_
      refine AC_region ?_
      refine AL_ev (Ev_move) rfl ?_
      refine AL_ev (Ev_assign) rfl ?_
      refine AL_nil ?_
      refine hK12 _ _ _ ?_
      refine AC_ret ?_
      have hj2 : j = xs.length := by
        have : ¬ j < xs.length := by simpa using hc1
        omega
      subst hj2
      rw [List.drop_length, List.append_nil] at hB hcl
      have hH := close_warns hB hcl (by simpa using hcc) hcp (by simpa using hlm)
      rw [marksW_length] at hH
      exact retM_ok hM hdm (.tmp rfl rfl .nil) hH

set_option maxHeartbeats 1000000 in
set_option maxRecDepth 4000 in
theorem c_heldWarningS (m : Nat) (k : Int) (hk : 0 ≤ k) (hkm : k + 3 * m ≤ 1099511627776) : PCall Tryd.prog 39 [.sl LW (injWs (marksW k m)), .c (.int .i64 k)] (· = [.c (.int .i64 (k + 3 * m))]) := by
  refine PCall_of (n := 41) Tryd.func39 rfl rfl (Nat.le_of_ble_eq_true rfl) fun C hdm hT0 => ?_
  have hT := hT0
  refine AC_seq fun K1 hK1 => ?_
  refine AC_region ?_
  refine AL_ev (Ev_assign) rfl ?_
  refine AL_nil ?_
  refine hK1 _ _ _ ?_
  refine AC_seq fun K2 hK2 => ?_
  refine AC_seq fun K3 hK3 => ?_
  refine AC_region ?_
  refine AL_ev (Ev_assign) rfl ?_
  refine AL_nil ?_
  refine hK3 _ _ _ ?_
  refine AC_block ?_
  refine AC_loopS [0] (Nat) (fun j => [(1, i64 (k + 3 * j)), (5, i64 j)]) (fun j => []) (fun j => m - j) (fun j => j ≤ m) (0) ?_ ?_ ?_
  · skip
    exact enterS [] rfl rfl BxTo_nil (SlTo_cons (Vw_int (by simp)) (SlTo_cons (by first | exact .rd .d | exact .ptr rfl | exact .ref rfl | exact .any | exact Vw_int (by omega)) (SlTo_cons (by first | exact .rd .d | exact .ptr rfl | exact .ref rfl | exact .any | exact Vw_int (by omega)) SlTo_nil)))
  · skip
    exact Nat.zero_le _
  intro j hj
  refine AC_seq fun K4 hK4 => ?_
  refine AC_seq fun K5 hK5 => ?_
  refine AC_region ?_
  refine AL_ev (Ev_move) rfl ?_
  refine AL_ev (Ev_move) rfl ?_
  first | refine AL_lim (x := (Operand.tmp 7)) rfl fun hl1 => ?_ | refine AL_limB (x := (Operand.tmp 7)) rfl rfl (by first | rfl | (simp; done) | (simp; omega)) fun hl1 => ?_ | have hl1 := True.intro
  try simp only [injs_length, ints_length, strs_length, injCs_length, List.length_map] at hl1
  first | refine AL_ev (Ev_len_sl te53 rfl) rfl ?_ | refine AL_ev (Ev_len_ref te53 rfl) rfl ?_ | refine AL_ev (Ev_len_nil te53 rfl) rfl ?_ | refine AL_ev (Ev_len_c te53 rfl) rfl ?_
  refine AL_ev (Ev_lss rfl rfl) rfl ?_
  refine AL_nil ?_
  refine hK5 _ _ _ ?_
  refine AC_cond rfl (fun hc1 => ?_) (fun hc1 => ?_)
  · skip
    have hlt : j < m := by simpa using hc1
    have hu2 := injWs_get (marksW_get m j k hlt)
    rw [show k + 3 * (j : Int) + 2 = k + 3 * j + 1 + 1 by omega] at hu2
    simp only [injW] at hu2
    refine AC_skip ?_
    refine hK4 _ _ _ ?_
    refine AC_seq fun K6 hK6 => ?_
    refine AC_block ?_
    refine AC_seq fun K7 hK7 => ?_
    refine AC_seq fun K8 hK8 => ?_
    refine AC_region ?_
    refine AL_ev (Ev_move) rfl ?_
    refine AL_ev (Ev_move) rfl ?_
    first | refine AL_ev (Ev_ix_sl rfl rfl te53 ts84 (by omega) (by assumption)) rfl ?_ | refine AL_ev (Ev_ix_ref rfl rfl te53 ts84 (by omega) (by first | omega | (simp; omega))) rfl ?_
    first | refine AL_ev (Ev_fa_ptr rfl fa84_0 rfl rfl) rfl ?_ | refine AL_ev (Ev_fa_rp rfl fa84_0 rfl rfl) rfl ?_
    first | refine AL_ev (Ev_load_ptr rfl rfl rfl rfl rfl rfl ts3 ta3 rfl (fun _ => rfl)) rfl ?_ | refine AL_ev (Ev_load_rp rfl rfl rfl ts3 ta3 rfl (fun _ => rfl)) rfl ?_
    refine AL_ev (Ev_move) rfl ?_
    refine AL_ev (Ev_neq rfl rfl) rfl ?_
    refine AL_nil ?_
    refine hK8 _ _ _ ?_
    refine AC_cond rfl (fun hc2 => ?_) (fun hc2 => ?_)
    · skip
      exact absurd hc2 (by simp)
    · skip
      refine AC_skip ?_
      refine hK7 _ _ _ ?_
      refine AC_seq fun K9 hK9 => ?_
      refine AC_region ?_
      refine AL_ev (Ev_move) rfl ?_
      first | refine AL_ev (Ev_add rfl rfl _ (wrap_id (by first | omega | (simp; omega)) (by first | omega | (simp; omega)))) rfl ?_ | refine AL_ev (Ev_add rfl rfl _ rfl) rfl ?_
      refine AL_ev (Ev_assign) rfl ?_
      refine AL_nil ?_
      refine hK9 _ _ _ ?_
      refine AC_seq fun K10 hK10 => ?_
      refine AC_seq fun K11 hK11 => ?_
      refine AC_region ?_
      refine AL_ev (Ev_move) rfl ?_
      refine AL_ev (Ev_move) rfl ?_
      first | refine AL_ev (Ev_ix_sl rfl rfl te53 ts84 (by omega) (by assumption)) rfl ?_ | refine AL_ev (Ev_ix_ref rfl rfl te53 ts84 (by omega) (by first | omega | (simp; omega))) rfl ?_
      first | refine AL_ev (Ev_fa_ptr rfl fa84_1 rfl rfl) rfl ?_ | refine AL_ev (Ev_fa_rp rfl fa84_1 rfl rfl) rfl ?_
      first | refine AL_ev (Ev_load_ptr rfl rfl rfl rfl rfl rfl ts3 ta3 rfl (fun _ => rfl)) rfl ?_ | refine AL_ev (Ev_load_rp rfl rfl rfl ts3 ta3 rfl (fun _ => rfl)) rfl ?_
      refine AL_ev (Ev_move) rfl ?_
      refine AL_ev (Ev_neq rfl rfl) rfl ?_
      refine AL_nil ?_
      refine hK11 _ _ _ ?_
      refine AC_cond rfl (fun hc3 => ?_) (fun hc3 => ?_)
      · skip
        exact absurd hc3 (by simp)
      · skip
        refine AC_skip ?_
        refine hK10 _ _ _ ?_
        refine AC_seq fun K12 hK12 => ?_
        refine AC_region ?_
        refine AL_ev (Ev_move) rfl ?_
        first | refine AL_ev (Ev_add rfl rfl _ (wrap_id (by first | omega | (simp; omega)) (by first | omega | (simp; omega)))) rfl ?_ | refine AL_ev (Ev_add rfl rfl _ rfl) rfl ?_
        refine AL_ev (Ev_assign) rfl ?_
        refine AL_nil ?_
        refine hK12 _ _ _ ?_
        refine AC_seq fun K13 hK13 => ?_
        refine AC_seq fun K14 hK14 => ?_
        refine AC_draw hT follows [0, 1, 2, 3, 4, 5, 6, 7] (by kernel_rfl) ?_
        refine DT_ev rfl (EA_move) rfl ?_
        refine DT_ev rfl (EA_move) rfl ?_
        first | refine DT_ev rfl (EA_ix_sl rfl rfl te53 ts84 (by omega) (by assumption)) rfl ?_ | refine DT_ev rfl (EA_ix_ref rfl rfl te53 ts84 (by omega) (by first | omega | (simp; omega))) rfl ?_
        first | refine DT_ev rfl (EA_fa_ptr rfl fa84_2 rfl rfl) rfl ?_ | refine DT_ev rfl (EA_fa_rp rfl fa84_2 rfl rfl) rfl ?_
        first | refine DT_ev rfl (EA_load_ptr rfl rfl rfl rfl rfl rfl ts9 ta9 rfl (fun _ => rfl)) rfl ?_ | refine DT_ev rfl (EA_load_rp rfl rfl rfl ts9 ta9 rfl (fun _ => rfl)) rfl ?_
        refine DT_ev rfl (EA_move) rfl ?_
        refine DT_fcall0 rfl rfl cl66 ((PCall0.to (c_markText (k + 3 * j + 1 + 1) (by omega)))) rfl rfl ?_
        refine DT_ev rfl (EA_sneq rfl rfl) rfl ?_
        refine DTi.nil ?_
        refine hK14 _ _ _ ?_
        refine AC_cond rfl (fun hc4 => ?_) (fun hc4 => ?_)
        · skip
          exact absurd hc4 (by simp)
        · skip
          refine AC_skip ?_
          refine hK13 _ _ _ ?_
          refine AC_region ?_
          refine AL_ev (Ev_move) rfl ?_
          first | refine AL_ev (Ev_add rfl rfl _ (wrap_id (by first | omega | (simp; omega)) (by first | omega | (simp; omega)))) rfl ?_ | refine AL_ev (Ev_add rfl rfl _ rfl) rfl ?_
          refine AL_ev (Ev_assign) rfl ?_
          refine AL_nil ?_
          refine hK6 _ _ _ ?_
          refine AC_region ?_
          refine AL_ev (Ev_move) rfl ?_
          first | refine AL_ev (Ev_add rfl rfl _ (wrap_id (by first | omega | (simp; omega)) (by first | omega | (simp; omega)))) rfl ?_ | refine AL_ev (Ev_add rfl rfl _ rfl) rfl ?_
          refine AL_ev (Ev_assign) rfl ?_
          refine AL_nil ?_
          refine closeS (j + 1) [] rfl rfl (by show m - (j + 1) < m - j; omega) hlt BxTo_nil (SlTo_cons (Vw_int (by push_cast; omega)) (SlTo_cons (Vw_int (by omega)) (SlTo_cons (by first | exact .rd .d | exact .ptr rfl | exact .ref rfl | exact .any | exact Vw_int (by omega)) SlTo_nil)))
  · skip
    refine AC_exit ?_
    refine hK2 _ _ _ ?_
    refine AC_seq fun K15 hK15 => ?_
    refine AC_region ?_
    refine AL_ev (Ev_move) rfl ?_
    refine AL_ev (Ev_assign) rfl ?_
    refine AL_nil ?_
    refine hK15 _ _ _ ?_
    refine AC_ret ?_
    have hj2 : j = m := by
      have : ¬ j < m := by simpa using hc1
      omega
    subst hj2
    exact ret_ok hdm (.tmp rfl rfl .nil) (.cons .d .nil) rfl

set_option maxHeartbeats 1000000 in
set_option maxRecDepth 4000 in
theorem c_warnMissing (d : Dbt) (hb : bulkD d ≤ 1048576) : OCall Tryd.prog 51 [injD d] (.sl LW (injWs (wmF d 0 d.cs))) := by
  have hw := wC_bulk d.cs
  obtain ⟨cs, op⟩ := d
  obtain ⟨hnc, hbc, hno, hbo⟩ := bulkD_bd hb
  replace hw : (wC cs : Int) ≤ cs.length + bulkCs cs := hw
  have hwl := wmF_len ⟨cs, op⟩ cs 0
  refine OCall_of (n := 37) Tryd.func51 rfl rfl (Nat.le_of_ble_eq_true rfl) fun C0 hdm hT0 => ?_
  have hX0 := CExt.refl C0
  have hT := hT0
  refine AC_seq fun K1 hK1 => ?_
  refine AC_region ?_
  refine AL_box (Lay.st [.one, .one]) (nf rfl) rfl (by first | rfl | simp [Lay.len, Lay.lens]) _ rfl rfl ?_
  refine AL_ev (Ev_assign) rfl ?_
  refine AL_nil ?_
  refine hK1 _ _ _ ?_
  refine AC_seq fun K2 hK2 => ?_
  refine AC_region ?_
  refine AL_ev (Ev_assign) rfl ?_
  refine AL_nil ?_
  refine hK2 _ _ _ ?_
  refine AC_seq fun K3 hK3 => ?_
  refine AC_seq fun K4 hK4 => ?_
  refine AC_region ?_
  first | refine AL_ev (Ev_fa_ptr rfl fa30_0 rfl rfl) rfl ?_ | refine AL_ev (Ev_fa_rp rfl fa30_0 rfl rfl) rfl ?_
  first | refine AL_ev (Ev_load_ptr rfl rfl rfl rfl rfl rfl ts28 ta28 rfl (fun _ => rfl)) rfl ?_ | refine AL_ev (Ev_load_rp rfl rfl rfl ts28 ta28 rfl (fun _ => rfl)) rfl ?_
  first | refine AL_lim (x := (Operand.tmp 9)) rfl fun hl1 => ?_ | refine AL_limB (x := (Operand.tmp 9)) rfl rfl (by first | rfl | (simp; done) | (simp; omega)) fun hl1 => ?_ | have hl1 := True.intro
  try simp only [injs_length, ints_length, strs_length, injCs_length, List.length_map] at hl1
  first | refine AL_ev (Ev_len_injCs te28 rfl) rfl ?_ | refine AL_ev (Ev_len_sl te28 rfl) rfl ?_ | refine AL_ev (Ev_len_ref te28 rfl) rfl ?_ | refine AL_ev (Ev_len_nil te28 rfl) rfl ?_ | refine AL_ev (Ev_len_c te28 rfl) rfl ?_
  refine AL_ev (Ev_move) rfl ?_
  refine AL_nil ?_
  refine hK4 _ _ _ ?_
  refine AC_block ?_
  refine AC_loopS [9, 10] (Nat × List Wn) (fun ⟨j, out⟩ => [(11, i64 j), (3, .ref LW 0 0 (injWs out).length), (1, .d (.rp (Lay.st [.one, .one]) (injD ⟨cs, op⟩) []))]) (fun ⟨j, out⟩ => [some ⟨84, LW, (injWs out).map V.d⟩]) (fun st => cs.length - st.1) (fun ⟨j, out⟩ => j ≤ cs.length ∧ (wmF ⟨cs, op⟩ 0 cs = out ++ wmF ⟨cs, op⟩ j (cs.drop j) ∧ out.length + wC (cs.drop j) ≤ wC cs)) ((0, [])) ?_ ?_ ?_
  · skip
    refine Wk.then (Wk_nil_slot 3 84 LW rfl 1 rfl ?_)
    exact enterS [some 1] rfl rfl (BxTo_some rfl rfl rfl rfl (by first | exact .nil | exact VwL_dd (by first | rfl | simp) | exact VwL_app (by first | rfl | simp) | exact VwL_of (by first | rfl | simp)) BxTo_nil) (SlTo_cons (by first | exact .rd .d | exact Vw_int (by first | rfl | assumption | omega | (simp; done) | (simp; omega)) | exact Vw_c (by first | rfl | (simp; done) | simp_all) | exact .any) (SlTo_cons (Vw_refe rfl (by first | rfl | simp)) (SlTo_cons (by first | exact .rd (.ptr (srcFree rfl) rfl rfl rfl .d) | exact .rd .d) (SlTo_cons (by first | exact .rd .d | exact .any) (SlTo_cons (by first | exact .rd .d | exact .any) SlTo_nil)))))
  · skip
    exact ⟨Nat.zero_le _, by simp, by simp⟩
  rintro ⟨j, out⟩ ⟨hj, ⟨hI, ho⟩⟩
  show AC _ _ _ _ _ (FS [9, 10] _ [(11, i64 j), (3, .ref LW 0 0 (injWs out).length), (1, .d (.rp (Lay.st [.one, .one]) (injD ⟨cs, op⟩) []))]) [some ⟨84, LW, (injWs out).map V.d⟩]
  refine AC_seq fun K5 hK5 => ?_
  refine AC_region ?_
  refine AL_ev (Ev_lss rfl rfl) rfl ?_
  refine AL_nil ?_
  refine hK5 _ _ _ ?_
  refine AC_seq fun K6 hK6 => ?_
  refine AC_cond rfl (fun hc1 => ?_) (fun hc1 => ?_)
  · skip
    have hlt : j < cs.length := by simpa using hc1
    obtain ⟨u, hu⟩ : ∃ x, cs[j]? = some x := ⟨_, List.getElem?_eq_getElem hlt⟩
    have hu2 := injCs_get hu
    have hdr := drop_get hu
    obtain ⟨_, hbu, _⟩ := bulkCs_bd (List.mem_of_getElem? hu) hbc
    rw [hdr, wmF] at hI
    rw [hdr, wC] at ho
    refine AC_skip ?_
    refine hK6 _ _ _ ?_
    refine AC_seq fun K7 hK7 => ?_
    refine AC_block ?_
    refine AC_seq fun K8 hK8 => ?_
    refine AC_region ?_
    refine AL_ev (Ev_move) rfl ?_
    first | refine AL_ev (Ev_ix_sl rfl rfl te28 ts68 (by omega) (by assumption)) rfl ?_ | refine AL_ev (Ev_ix_ref rfl rfl te28 ts68 (by omega) (by first | omega | (simp; omega))) rfl ?_
    first | refine AL_ev (Ev_load_ptr rfl rfl rfl rfl rfl rfl ts68 ta68 (by first | rfl | simp) (by intro h; cases h)) rfl ?_ | refine AL_ev (Ev_load_rp rfl rfl rfl ts68 ta68 (by first | rfl | simp) (by intro h; cases h)) rfl ?_
    refine AL_alloc zo68 _ rfl rfl ?_
    refine AL_ev (Ev_assign) rfl ?_
    first | refine AL_store rfl (nf rfl) rfl rfl rfl rfl rfl rfl (by first | rfl | simp [Lay.len, Lay.lens]) ts68 rfl rfl ?_ | refine AL_store rfl (nf rfl) rfl rfl rfl hes rfl rfl (by first | rfl | simp [Lay.len, Lay.lens]) ts68 rfl rfl ?_
    refine AL_nil ?_
    refine hK8 _ _ _ ?_
    refine AC_seq fun K9 hK9 => ?_
    refine AC_region ?_
    first | refine AL_ev (Ev_fa_ptr rfl fa68_1 rfl rfl) rfl ?_ | refine AL_ev (Ev_fa_rp rfl fa68_1 rfl rfl) rfl ?_
    first | refine AL_ev (Ev_load_ptr rfl rfl rfl rfl rfl rfl ts45 ta45 (by first | rfl | simp) (by intro h; cases h)) rfl ?_ | refine AL_ev (Ev_load_rp rfl rfl rfl ts45 ta45 (by first | rfl | simp) (by intro h; cases h)) rfl ?_
    refine AL_fcall0 hT rfl cl34 ((c_callsIn u.b (by omega)).pcall) rfl rfl ?_
    first | refine AL_lim (x := (Operand.tmp 18)) rfl fun hl2 => ?_ | refine AL_limB (x := (Operand.tmp 18)) rfl rfl (by first | rfl | (simp; done) | (simp; omega)) fun hl2 => ?_ | have hl2 := True.intro
    try simp only [injs_length, ints_length, strs_length, injCs_length, List.length_map] at hl2
    first | refine AL_ev (Ev_len_strs te23 rfl) rfl ?_ | refine AL_ev (Ev_len_sl te23 rfl) rfl ?_ | refine AL_ev (Ev_len_ref te23 rfl) rfl ?_ | refine AL_ev (Ev_len_nil te23 rfl) rfl ?_ | refine AL_ev (Ev_len_c te23 rfl) rfl ?_
    refine AL_ev (Ev_move) rfl ?_
    refine AL_nil ?_
    refine hK9 _ _ _ ?_
    refine AC_block ?_
    refine AC_loopS [1, 4, 9, 10, 11, 18, 19] (Nat × List Wn) (fun ⟨i, ou2⟩ => [(20, i64 i), (3, .ref LW 0 0 (injWs ou2).length)]) (fun ⟨i, ou2⟩ => [some ⟨84, LW, (injWs ou2).map V.d⟩]) (fun st => (callsIn u.b).length - st.1) (fun ⟨i, ou2⟩ => i ≤ (callsIn u.b).length ∧ (out ++ wmC ⟨cs, op⟩ j (callsIn u.b) = ou2 ++ wmC ⟨cs, op⟩ j ((callsIn u.b).drop i) ∧ ou2.length + ((callsIn u.b).drop i).length + wC (cs.drop (j + 1)) ≤ wC cs)) ((0, out)) ?_ ?_ ?_
    · skip
      exact enterS [some 0] rfl rfl (BxTo_some rfl rfl rfl rfl (by first | exact .nil | exact VwL_dd (by first | rfl | simp) | exact VwL_app (by first | rfl | simp) | exact VwL_of (by first | rfl | simp)) BxTo_nil) (SlTo_cons (by first | exact .rd .d | exact Vw_int (by first | rfl | assumption | omega | (simp; done) | (simp; omega)) | exact Vw_c (by first | rfl | (simp; done) | simp_all) | exact .any) (SlTo_cons (Vw_refe rfl (by first | rfl | simp)) (SlTo_cons (by first | exact .rd .d | exact .any) (SlTo_cons (by first | exact .rd .d | exact .any) (SlTo_cons (by first | exact .rd .d | exact .any) (SlTo_cons (by first | exact .rd .d | exact .any) (SlTo_cons (by first | exact .rd .d | exact .any) (SlTo_cons (by first | exact .rd .d | exact .any) (SlTo_cons (by first | exact .rd .d | exact .any) SlTo_nil)))))))))
    · skip
      exact ⟨Nat.zero_le _, by simp, by simp; omega⟩
    rintro ⟨i, ou2⟩ ⟨hj, ⟨hI2, ho2⟩⟩
    show AC _ _ _ _ _ (FS [1, 4, 9, 10, 11, 18, 19] _ [(20, i64 i), (3, .ref LW 0 0 (injWs ou2).length)]) [some ⟨84, LW, (injWs ou2).map V.d⟩]
    refine AC_seq fun K10 hK10 => ?_
    refine AC_region ?_
    refine AL_ev (Ev_lss rfl rfl) rfl ?_
    refine AL_nil ?_
    refine hK10 _ _ _ ?_
    refine AC_seq fun K11 hK11 => ?_
    refine AC_cond rfl (fun hc2 => ?_) (fun hc2 => ?_)
    · skip
      have hlt : i < (callsIn u.b).length := by simpa using hc2
      obtain ⟨v, hu⟩ : ∃ x, (callsIn u.b)[i]? = some x := ⟨_, List.getElem?_eq_getElem hlt⟩
      have hu2 := strs_get hu
      have hdr := drop_get hu
      rw [hdr] at hI2 ho2
      rw [wmC] at hI2
      rw [List.length_cons] at ho2
      refine AC_skip ?_
      refine hK11 _ _ _ ?_
      refine AC_seq fun K12 hK12 => ?_
      refine AC_block ?_
      refine AC_seq fun K13 hK13 => ?_
      refine AC_region ?_
      first | refine AL_ev (Ev_ix_sl rfl rfl te23 ts9 (by omega) (by assumption)) rfl ?_ | refine AL_ev (Ev_ix_ref rfl rfl te23 ts9 (by omega) (by first | omega | (simp; omega))) rfl ?_
      first | refine AL_ev (Ev_load_ptr rfl rfl rfl rfl rfl rfl ts9 ta9 rfl (fun _ => rfl)) rfl ?_ | refine AL_ev (Ev_load_rp rfl rfl rfl ts9 ta9 rfl (fun _ => rfl)) rfl ?_
      refine AL_ev (Ev_assign) rfl ?_
      refine AL_nil ?_
      refine hK13 _ _ _ ?_
      refine AC_seq fun K14 hK14 => ?_
      refine AC_region ?_
      first | refine AL_ev (Ev_load_ptr rfl rfl rfl rfl rfl rfl ts30 ta30 (by first | rfl | simp) (by intro h; cases h)) rfl ?_ | refine AL_ev (Ev_load_rp rfl rfl rfl ts30 ta30 (by first | rfl | simp) (by intro h; cases h)) rfl ?_
      refine AL_ev (Ev_move) rfl ?_
      refine AL_fcall0 hT rfl cl92 (c_known ⟨cs, op⟩ v hb) rfl rfl ?_
      refine AL_ev (Ev_not rfl) rfl ?_
      refine AL_nil ?_
      refine hK14 _ _ _ ?_
      refine AC_cond rfl (fun hc3 => ?_) (fun hc3 => ?_)
      · skip
        refine AC_region ?_
        refine AL_ev (Ev_move) rfl ?_
        refine AL_ev (Ev_move) rfl ?_
        refine AL_ev (Ev_move) rfl ?_
        refine AL_ev (Ev_buildD (fs := [.one, .one, .one]) (zs := [.c (.int .i64 0), .c (.int .i64 0), .c (.string ⟨#[]⟩)]) tz84 rfl tpl84 (.cons rfl rfl (by first | rfl | simp) (.cons rfl rfl (by first | rfl | simp) (.cons rfl rfl (by first | rfl | simp) .nil))) rfl) rfl ?_
        first | refine AL_bD (Lay.st [.one, .one, .one]) rfl te53 ts84 tz84 rfl rfl (by decide) (by decide) (by first | rfl | simp [lenDs, goodVs, goodV, V.known, Lay.len, Lay.lens]) rfl ?_ | refine AL_bV (Lay.st [.one, .one, .one]) rfl te53 ts84 tz84 rfl rfl (by decide) (by decide) (by first | rfl | simp [lenDs, goodVs, goodV, V.known, Lay.len, Lay.lens]) _ rfl rfl ?_
        first | refine AL_append rfl rfl rfl te53 ts84 tz84 rfl tb84 (by decide) (by decide) rfl (by first | rfl | (simp; done) | (simp; omega)) (Src_sl rfl) (by simp only [lim]; first | omega | (simp; done) | (simp; omega)) _ rfl rfl ?_ | refine AL_append rfl rfl rfl te53 ts84 tz84 rfl tb84 (by decide) (by decide) rfl (by first | rfl | (simp; done) | (simp; omega)) (Src_ref rfl rfl rfl rfl) (by simp only [lim]; first | omega | (simp; done) | (simp; omega)) _ rfl rfl ?_ | refine AL_append rfl rfl rfl te53 ts84 tz84 rfl tb84 (by decide) (by decide) rfl (by first | rfl | (simp; done) | (simp; omega)) (Src_nil rfl) (by simp only [lim]; first | omega | (simp; done) | (simp; omega)) _ rfl rfl ?_
        refine AL_ev (Ev_assign) rfl ?_
        refine AL_nil ?_
        refine hK12 _ _ _ ?_
        refine AC_region ?_
        first | refine AL_ev (Ev_add rfl rfl _ (wrap_id (by first | omega | (simp; omega)) (by first | omega | (simp; omega)))) rfl ?_ | refine AL_ev (Ev_add rfl rfl _ rfl) rfl ?_
        refine AL_ev (Ev_move) rfl ?_
        refine AL_nil ?_
        refine closeS (i + 1, ou2 ++ [⟨3, j, v⟩]) [some 1] rfl rfl (by show (callsIn u.b).length - (i + 1) < (callsIn u.b).length - i; omega) ⟨hlt, ?_⟩ (BxTo_some rfl rfl rfl rfl (by first | exact VwL_app (by first | rfl | (simp [injWs, injW]; done) | simp_all [injWs, injW]) | exact VwL_dd (by first | rfl | (simp [injWs, injW]; done) | simp_all [injWs, injW]) | exact VwL_of (by first | rfl | (simp [injWs, injW]; done) | simp_all [injWs, injW])) BxTo_nil) (SlTo_cons (by first | exact .rd .d | exact Vw_int (by first | rfl | assumption | omega | (simp; done) | (simp; omega)) | exact Vw_c (by first | rfl | (simp; done) | simp_all) | exact .any) (SlTo_cons (Vw_refe rfl (by first | rfl | simp | (simp; omega))) (SlTo_cons (by first | exact .rd .d | exact .any) (SlTo_cons (by first | exact .rd .d | exact .any) (SlTo_cons (by first | exact .rd .d | exact .any) (SlTo_cons (by first | exact .rd .d | exact .any) (SlTo_cons (by first | exact .rd .d | exact .any) (SlTo_cons (by first | exact .rd .d | exact .any) (SlTo_cons (by first | exact .rd .d | exact .any) SlTo_nil)))))))))
        exact ⟨by rw [hI2, if_neg (by simp_all)]; simp, by simp only [List.length_append, List.length_singleton]; omega⟩
      · skip
        refine AC_skip ?_
        refine hK12 _ _ _ ?_
        refine AC_region ?_
        first | refine AL_ev (Ev_add rfl rfl _ (wrap_id (by first | omega | (simp; omega)) (by first | omega | (simp; omega)))) rfl ?_ | refine AL_ev (Ev_add rfl rfl _ rfl) rfl ?_
        refine AL_ev (Ev_move) rfl ?_
        refine AL_nil ?_
        refine closeS (i + 1, ou2) [some 0] rfl rfl (by show (callsIn u.b).length - (i + 1) < (callsIn u.b).length - i; omega) ⟨hlt, ?_⟩ (BxTo_some rfl rfl rfl rfl (by first | exact VwL_app (by first | rfl | (simp [injWs, injW]; done) | simp_all [injWs, injW]) | exact VwL_dd (by first | rfl | (simp [injWs, injW]; done) | simp_all [injWs, injW]) | exact VwL_of (by first | rfl | (simp [injWs, injW]; done) | simp_all [injWs, injW])) BxTo_nil) (SlTo_cons (by first | exact .rd .d | exact Vw_int (by first | rfl | assumption | omega | (simp; done) | (simp; omega)) | exact Vw_c (by first | rfl | (simp; done) | simp_all) | exact .any) (SlTo_cons (Vw_refe rfl (by first | rfl | simp | (simp; omega))) (SlTo_cons (by first | exact .rd .d | exact .any) (SlTo_cons (by first | exact .rd .d | exact .any) (SlTo_cons (by first | exact .rd .d | exact .any) (SlTo_cons (by first | exact .rd .d | exact .any) (SlTo_cons (by first | exact .rd .d | exact .any) (SlTo_cons (by first | exact .rd .d | exact .any) (SlTo_cons (by first | exact .rd .d | exact .any) SlTo_nil)))))))))
        exact ⟨by rw [hI2, if_pos (by simp_all)]; simp, by omega⟩
    · skip
      have hj2 : i = (callsIn u.b).length := by
        have : ¬ i < (callsIn u.b).length := by simpa using hc2
        omega
      subst hj2
      refine AC_exit ?_
      refine hK7 _ _ _ ?_
      refine AC_region ?_
      first | refine AL_ev (Ev_add rfl rfl _ (wrap_id (by first | omega | (simp; omega)) (by first | omega | (simp; omega)))) rfl ?_ | refine AL_ev (Ev_add rfl rfl _ rfl) rfl ?_
      refine AL_ev (Ev_move) rfl ?_
      refine AL_nil ?_
      refine closeS (j + 1, ou2) [some 0] rfl rfl (by show cs.length - (j + 1) < cs.length - j; omega) ⟨hlt, ?_⟩ (BxTo_some rfl rfl rfl rfl (by first | exact VwL_app (by first | rfl | (simp [injWs, injW]; done) | simp_all [injWs, injW]) | exact VwL_dd (by first | rfl | (simp [injWs, injW]; done) | simp_all [injWs, injW]) | exact VwL_of (by first | rfl | (simp [injWs, injW]; done) | simp_all [injWs, injW])) BxTo_nil) (SlTo_cons (by first | exact .rd .d | exact Vw_int (by first | rfl | assumption | omega | (simp; done) | (simp; omega)) | exact Vw_c (by first | rfl | (simp; done) | simp_all) | exact .any) (SlTo_cons (Vw_refe rfl (by first | rfl | simp | (simp; omega))) (SlTo_cons (by first | exact .rd (.ptr (srcFree rfl) rfl rfl rfl .d) | exact .rd .d) (SlTo_cons (by first | exact .rd .d | exact .any) (SlTo_cons (by first | exact .rd .d | exact .any) SlTo_nil)))))
      rw [List.drop_length, wmC, List.append_nil] at hI2
      rw [List.drop_length] at ho2
      exact ⟨by rw [hI, ← List.append_assoc, hI2], by simp at ho2; omega⟩
  · skip
    have hj2 : j = cs.length := by
      have : ¬ j < cs.length := by simpa using hc1
      omega
    subst hj2
    rw [List.drop_length] at hI
    refine AC_exit ?_
    refine hK3 _ _ _ ?_
    refine AC_seq fun K15 hK15 => ?_
    refine AC_region ?_
    refine AL_ev (Ev_move) rfl ?_
    refine AL_ev (Ev_assign) rfl ?_
    refine AL_nil ?_
    refine hK15 _ _ _ ?_
    refine AC_ret ?_
    rw [wmF, List.append_nil] at hI
    rw [hI]
    refine reto_ok hX0 hdm (.tmp rfl rfl .nil) (.ref rfl rfl (by first | rfl | simp) (.flats (injWs_flat _)) (by simp)) rfl rfl

set_option maxHeartbeats 1000000 in
set_option maxRecDepth 4000 in
theorem c_specWarnMissing (d : Dbt) (hb : bulkD d ≤ 1048576) : PCall Tryd.prog 50 [injD d] (· = [.sl LW (injWs (wmF d 0 d.cs))]) := by
  have hw := wC_bulk d.cs
  obtain ⟨cs, op⟩ := d
  obtain ⟨hnc, hbc, hno, hbo⟩ := bulkD_bd hb
  replace hw : (wC cs : Int) ≤ cs.length + bulkCs cs := hw
  have hwl := wmF_len ⟨cs, op⟩ cs 0
  refine PCall_of (n := 45) Tryd.func50 rfl rfl (Nat.le_of_ble_eq_true rfl) fun C hdm hT0 => ?_
  have hT := hT0
  refine AC_seq fun K1 hK1 => ?_
  refine AC_region ?_
  refine AL_box (Lay.st [.one, .one]) (nf rfl) rfl (by first | rfl | simp [Lay.len, Lay.lens]) _ rfl rfl ?_
  refine AL_ev (Ev_assign) rfl ?_
  refine AL_nil ?_
  refine hK1 _ _ _ ?_
  refine AC_seq fun K2 hK2 => ?_
  refine AC_region ?_
  refine AL_bV (Lay.st [.one, .one, .one]) rfl te53 ts84 tz84 rfl rfl (by decide) (by decide) (by first | rfl | simp [lenDs, goodVs, goodV, V.known, Lay.len, Lay.lens]) _ rfl rfl ?_
  refine AL_ev (Ev_assign) rfl ?_
  refine AL_nil ?_
  refine hK2 _ _ _ ?_
  refine AC_seq fun K3 hK3 => ?_
  refine AC_seq fun K4 hK4 => ?_
  refine AC_region ?_
  refine AL_ev (Ev_assign) rfl ?_
  refine AL_nil ?_
  refine hK4 _ _ _ ?_
  refine AC_block ?_
  refine AC_loopS [] (Nat × List Wn) (fun ⟨j, out⟩ => [(4, i64 j), (3, .ref LW 0 0 (injWs out).length), (1, .d (.rp (Lay.st [.one, .one]) (injD ⟨cs, op⟩) []))]) (fun ⟨j, out⟩ => [some ⟨84, LW, (injWs out).map V.d⟩]) (fun st => cs.length - st.1) (fun ⟨j, out⟩ => j ≤ cs.length ∧ (wmF ⟨cs, op⟩ 0 cs = out ++ wmF ⟨cs, op⟩ j (cs.drop j) ∧ out.length + wC (cs.drop j) ≤ wC cs)) ((0, [])) ?_ ?_ ?_
  · skip
    exact enterS [some 1] rfl rfl (BxTo_some rfl rfl rfl rfl (by first | exact .nil | exact VwL_dd (by first | rfl | simp) | exact VwL_app (by first | rfl | simp) | exact VwL_of (by first | rfl | simp)) BxTo_nil) (SlTo_cons (by first | exact .rd .d | exact Vw_int (by first | rfl | assumption | omega | (simp; done) | (simp; omega)) | exact Vw_c (by first | rfl | (simp; done) | simp_all) | exact .any) (SlTo_cons (Vw_refe rfl (by first | rfl | simp)) (SlTo_cons (by first | exact .rd (.ptr (srcFree rfl) rfl rfl rfl .d) | exact .rd .d) SlTo_nil)))
  · skip
    exact ⟨Nat.zero_le _, by simp, by simp⟩
  rintro ⟨j, out⟩ ⟨hj, ⟨hI, ho⟩⟩
  show AC _ _ _ _ _ (FS [] _ [(4, i64 j), (3, .ref LW 0 0 (injWs out).length), (1, .d (.rp (Lay.st [.one, .one]) (injD ⟨cs, op⟩) []))]) [some ⟨84, LW, (injWs out).map V.d⟩]
  refine AC_seq fun K5 hK5 => ?_
  refine AC_seq fun K6 hK6 => ?_
  refine AC_region ?_
  refine AL_ev (Ev_move) rfl ?_
  first | refine AL_ev (Ev_fa_ptr rfl fa30_0 rfl rfl) rfl ?_ | refine AL_ev (Ev_fa_rp rfl fa30_0 rfl rfl) rfl ?_
  first | refine AL_ev (Ev_load_ptr rfl rfl rfl rfl rfl rfl ts28 ta28 rfl (fun _ => rfl)) rfl ?_ | refine AL_ev (Ev_load_rp rfl rfl rfl ts28 ta28 rfl (fun _ => rfl)) rfl ?_
  first | refine AL_lim (x := (Operand.tmp 10)) rfl fun hl1 => ?_ | refine AL_limB (x := (Operand.tmp 10)) rfl rfl (by first | rfl | (simp; done) | (simp; omega)) fun hl1 => ?_ | have hl1 := True.intro
  try simp only [injs_length, ints_length, strs_length, injCs_length, List.length_map] at hl1
  first | refine AL_ev (Ev_len_injCs te28 rfl) rfl ?_ | refine AL_ev (Ev_len_sl te28 rfl) rfl ?_ | refine AL_ev (Ev_len_ref te28 rfl) rfl ?_ | refine AL_ev (Ev_len_nil te28 rfl) rfl ?_ | refine AL_ev (Ev_len_c te28 rfl) rfl ?_
  refine AL_ev (Ev_lss rfl rfl) rfl ?_
  refine AL_nil ?_
  refine hK6 _ _ _ ?_
  refine AC_cond rfl (fun hc1 => ?_) (fun hc1 => ?_)
  · skip
    have hlt : j < cs.length := by simpa using hc1
    obtain ⟨u, hu⟩ : ∃ x, cs[j]? = some x := ⟨_, List.getElem?_eq_getElem hlt⟩
    have hu2 := injCs_get hu
    have hdr := drop_get hu
    obtain ⟨_, hbu, _⟩ := bulkCs_bd (List.mem_of_getElem? hu) hbc
    rw [hdr, wmF] at hI
    rw [hdr, wC] at ho
    refine AC_skip ?_
    refine hK5 _ _ _ ?_
    refine AC_seq fun K7 hK7 => ?_
    refine AC_block ?_
    refine AC_seq fun K8 hK8 => ?_
    refine AC_region ?_
    first | refine AL_ev (Ev_fa_ptr rfl fa30_0 rfl rfl) rfl ?_ | refine AL_ev (Ev_fa_rp rfl fa30_0 rfl rfl) rfl ?_
    first | refine AL_ev (Ev_load_ptr rfl rfl rfl rfl rfl rfl ts28 ta28 rfl (fun _ => rfl)) rfl ?_ | refine AL_ev (Ev_load_rp rfl rfl rfl ts28 ta28 rfl (fun _ => rfl)) rfl ?_
    refine AL_ev (Ev_move) rfl ?_
    first | refine AL_ev (Ev_ix_sl rfl rfl te28 ts68 (by omega) (by assumption)) rfl ?_ | refine AL_ev (Ev_ix_ref rfl rfl te28 ts68 (by omega) (by first | omega | (simp; omega))) rfl ?_
    first | refine AL_ev (Ev_fa_ptr rfl fa68_1 rfl rfl) rfl ?_ | refine AL_ev (Ev_fa_rp rfl fa68_1 rfl rfl) rfl ?_
    first | refine AL_ev (Ev_load_ptr rfl rfl rfl rfl rfl rfl ts45 ta45 (by first | rfl | simp) (by intro h; cases h)) rfl ?_ | refine AL_ev (Ev_load_rp rfl rfl rfl ts45 ta45 (by first | rfl | simp) (by intro h; cases h)) rfl ?_
    refine AL_fcall0 hT rfl cl33 (c_specCallsIn u.b (by omega)) rfl rfl ?_
    refine AL_ev (Ev_assign) rfl ?_
    refine AL_nil ?_
    refine hK8 _ _ _ ?_
    refine AC_seq fun K9 hK9 => ?_
    refine AC_region ?_
    refine AL_ev (Ev_assign) rfl ?_
    refine AL_nil ?_
    refine hK9 _ _ _ ?_
    refine AC_block ?_
    refine AC_loopS [1, 4, 5] (Nat × List Wn) (fun ⟨i, ou2⟩ => [(6, i64 i), (3, .ref LW 0 0 (injWs ou2).length)]) (fun ⟨i, ou2⟩ => [some ⟨84, LW, (injWs ou2).map V.d⟩]) (fun st => (callsIn u.b).length - st.1) (fun ⟨i, ou2⟩ => i ≤ (callsIn u.b).length ∧ (out ++ wmC ⟨cs, op⟩ j (callsIn u.b) = ou2 ++ wmC ⟨cs, op⟩ j ((callsIn u.b).drop i) ∧ ou2.length + ((callsIn u.b).drop i).length + wC (cs.drop (j + 1)) ≤ wC cs)) ((0, out)) ?_ ?_ ?_
    · skip
      exact enterS [some 0] rfl rfl (BxTo_some rfl rfl rfl rfl (by first | exact .nil | exact VwL_dd (by first | rfl | simp) | exact VwL_app (by first | rfl | simp) | exact VwL_of (by first | rfl | simp)) BxTo_nil) (SlTo_cons (by first | exact .rd .d | exact Vw_int (by first | rfl | assumption | omega | (simp; done) | (simp; omega)) | exact Vw_c (by first | rfl | (simp; done) | simp_all) | exact .any) (SlTo_cons (Vw_refe rfl (by first | rfl | simp)) (SlTo_cons (by first | exact .rd .d | exact .any) (SlTo_cons (by first | exact .rd .d | exact .any) (SlTo_cons (by first | exact .rd .d | exact .any) SlTo_nil)))))
    · skip
      exact ⟨Nat.zero_le _, by simp, by simp; omega⟩
    rintro ⟨i, ou2⟩ ⟨hj, ⟨hI2, ho2⟩⟩
    show AC _ _ _ _ _ (FS [1, 4, 5] _ [(6, i64 i), (3, .ref LW 0 0 (injWs ou2).length)]) [some ⟨84, LW, (injWs ou2).map V.d⟩]
    refine AC_seq fun K10 hK10 => ?_
    refine AC_seq fun K11 hK11 => ?_
    refine AC_region ?_
    refine AL_ev (Ev_move) rfl ?_
    refine AL_ev (Ev_move) rfl ?_
    first | refine AL_lim (x := (Operand.tmp 23)) rfl fun hl2 => ?_ | refine AL_limB (x := (Operand.tmp 23)) rfl rfl (by first | rfl | (simp; done) | (simp; omega)) fun hl2 => ?_ | have hl2 := True.intro
    try simp only [injs_length, ints_length, strs_length, injCs_length, List.length_map] at hl2
    first | refine AL_ev (Ev_len_strs te23 rfl) rfl ?_ | refine AL_ev (Ev_len_sl te23 rfl) rfl ?_ | refine AL_ev (Ev_len_ref te23 rfl) rfl ?_ | refine AL_ev (Ev_len_nil te23 rfl) rfl ?_ | refine AL_ev (Ev_len_c te23 rfl) rfl ?_
    refine AL_ev (Ev_lss rfl rfl) rfl ?_
    refine AL_nil ?_
    refine hK11 _ _ _ ?_
    refine AC_cond rfl (fun hc2 => ?_) (fun hc2 => ?_)
    · skip
      have hlt : i < (callsIn u.b).length := by simpa using hc2
      obtain ⟨v, hu⟩ : ∃ x, (callsIn u.b)[i]? = some x := ⟨_, List.getElem?_eq_getElem hlt⟩
      have hu2 := strs_get hu
      have hdr := drop_get hu
      rw [hdr] at hI2 ho2
      rw [wmC] at hI2
      rw [List.length_cons] at ho2
      refine AC_skip ?_
      refine hK10 _ _ _ ?_
      refine AC_seq fun K12 hK12 => ?_
      refine AC_block ?_
      refine AC_seq fun K13 hK13 => ?_
      refine AC_draw hT follows [0, 1, 2, 3, 4, 5, 6] (by kernel_rfl) ?_
      first | refine DT_ev rfl (EA_load_ptr rfl rfl rfl rfl rfl rfl ts30 ta30 (by first | rfl | simp) (by intro h; cases h)) rfl ?_ | refine DT_ev rfl (EA_load_rp rfl rfl rfl ts30 ta30 (by first | rfl | simp) (by intro h; cases h)) rfl ?_
      refine DT_ev rfl (EA_move) rfl ?_
      refine DT_ev rfl (EA_move) rfl ?_
      first | refine DT_ev rfl (EA_ix_sl rfl rfl te23 ts9 (by omega) (by assumption)) rfl ?_ | refine DT_ev rfl (EA_ix_ref rfl rfl te23 ts9 (by omega) (by first | omega | (simp; omega))) rfl ?_
      first | refine DT_ev rfl (EA_load_ptr rfl rfl rfl rfl rfl rfl ts9 ta9 rfl (fun _ => rfl)) rfl ?_ | refine DT_ev rfl (EA_load_rp rfl rfl rfl ts9 ta9 rfl (fun _ => rfl)) rfl ?_
      refine DT_fcall0 rfl rfl cl91 (c_specKnown ⟨cs, op⟩ v hb) rfl rfl ?_
      refine DT_ev rfl (EA_not rfl) rfl ?_
      refine DTi.nil ?_
      refine hK13 _ _ _ ?_
      refine AC_cond rfl (fun hc3 => ?_) (fun hc3 => ?_)
      · skip
        refine AC_region ?_
        refine AL_ev (Ev_move) rfl ?_
        refine AL_ev (Ev_move) rfl ?_
        refine AL_ev (Ev_move) rfl ?_
        refine AL_ev (Ev_move) rfl ?_
        first | refine AL_ev (Ev_ix_sl rfl rfl te23 ts9 (by omega) (by assumption)) rfl ?_ | refine AL_ev (Ev_ix_ref rfl rfl te23 ts9 (by omega) (by first | omega | (simp; omega))) rfl ?_
        first | refine AL_ev (Ev_load_ptr rfl rfl rfl rfl rfl rfl ts9 ta9 rfl (fun _ => rfl)) rfl ?_ | refine AL_ev (Ev_load_rp rfl rfl rfl ts9 ta9 rfl (fun _ => rfl)) rfl ?_
        refine AL_ev (Ev_buildD (fs := [.one, .one, .one]) (zs := [.c (.int .i64 0), .c (.int .i64 0), .c (.string ⟨#[]⟩)]) tz84 rfl tpl84 (.cons rfl rfl (by first | rfl | simp) (.cons rfl rfl (by first | rfl | simp) (.cons rfl rfl (by first | rfl | simp) .nil))) rfl) rfl ?_
        first | refine AL_bD (Lay.st [.one, .one, .one]) rfl te53 ts84 tz84 rfl rfl (by decide) (by decide) (by first | rfl | simp [lenDs, goodVs, goodV, V.known, Lay.len, Lay.lens]) rfl ?_ | refine AL_bV (Lay.st [.one, .one, .one]) rfl te53 ts84 tz84 rfl rfl (by decide) (by decide) (by first | rfl | simp [lenDs, goodVs, goodV, V.known, Lay.len, Lay.lens]) _ rfl rfl ?_
        first | refine AL_append rfl rfl rfl te53 ts84 tz84 rfl tb84 (by decide) (by decide) rfl (by first | rfl | (simp; done) | (simp; omega)) (Src_sl rfl) (by simp only [lim]; first | omega | (simp; done) | (simp; omega)) _ rfl rfl ?_ | refine AL_append rfl rfl rfl te53 ts84 tz84 rfl tb84 (by decide) (by decide) rfl (by first | rfl | (simp; done) | (simp; omega)) (Src_ref rfl rfl rfl rfl) (by simp only [lim]; first | omega | (simp; done) | (simp; omega)) _ rfl rfl ?_ | refine AL_append rfl rfl rfl te53 ts84 tz84 rfl tb84 (by decide) (by decide) rfl (by first | rfl | (simp; done) | (simp; omega)) (Src_nil rfl) (by simp only [lim]; first | omega | (simp; done) | (simp; omega)) _ rfl rfl ?_
        refine AL_ev (Ev_assign) rfl ?_
        refine AL_nil ?_
        refine hK12 _ _ _ ?_
        refine AC_region ?_
        refine AL_ev (Ev_move) rfl ?_
        first | refine AL_ev (Ev_add rfl rfl _ (wrap_id (by first | omega | (simp; omega)) (by first | omega | (simp; omega)))) rfl ?_ | refine AL_ev (Ev_add rfl rfl _ rfl) rfl ?_
        refine AL_ev (Ev_assign) rfl ?_
        refine AL_nil ?_
        refine closeS (i + 1, ou2 ++ [⟨3, j, v⟩]) [some 1] rfl rfl (by show (callsIn u.b).length - (i + 1) < (callsIn u.b).length - i; omega) ⟨hlt, ?_⟩ (BxTo_some rfl rfl rfl rfl (by first | exact VwL_app (by first | rfl | (simp [injWs, injW]; done) | simp_all [injWs, injW]) | exact VwL_dd (by first | rfl | (simp [injWs, injW]; done) | simp_all [injWs, injW]) | exact VwL_of (by first | rfl | (simp [injWs, injW]; done) | simp_all [injWs, injW])) BxTo_nil) (SlTo_cons (by first | exact .rd .d | exact Vw_int (by first | rfl | assumption | omega | (simp; done) | (simp; omega)) | exact Vw_c (by first | rfl | (simp; done) | simp_all) | exact .any) (SlTo_cons (Vw_refe rfl (by first | rfl | simp | (simp; omega))) (SlTo_cons (by first | exact .rd .d | exact .any) (SlTo_cons (by first | exact .rd .d | exact .any) (SlTo_cons (by first | exact .rd .d | exact .any) SlTo_nil)))))
        exact ⟨by rw [hI2, if_neg (by simp_all)]; simp, by simp only [List.length_append, List.length_singleton]; omega⟩
      · skip
        refine AC_skip ?_
        refine hK12 _ _ _ ?_
        refine AC_region ?_
        refine AL_ev (Ev_move) rfl ?_
        first | refine AL_ev (Ev_add rfl rfl _ (wrap_id (by first | omega | (simp; omega)) (by first | omega | (simp; omega)))) rfl ?_ | refine AL_ev (Ev_add rfl rfl _ rfl) rfl ?_
        refine AL_ev (Ev_assign) rfl ?_
        refine AL_nil ?_
        refine closeS (i + 1, ou2) [some 0] rfl rfl (by show (callsIn u.b).length - (i + 1) < (callsIn u.b).length - i; omega) ⟨hlt, ?_⟩ (BxTo_some rfl rfl rfl rfl (by first | exact VwL_app (by first | rfl | (simp [injWs, injW]; done) | simp_all [injWs, injW]) | exact VwL_dd (by first | rfl | (simp [injWs, injW]; done) | simp_all [injWs, injW]) | exact VwL_of (by first | rfl | (simp [injWs, injW]; done) | simp_all [injWs, injW])) BxTo_nil) (SlTo_cons (by first | exact .rd .d | exact Vw_int (by first | rfl | assumption | omega | (simp; done) | (simp; omega)) | exact Vw_c (by first | rfl | (simp; done) | simp_all) | exact .any) (SlTo_cons (Vw_refe rfl (by first | rfl | simp | (simp; omega))) (SlTo_cons (by first | exact .rd .d | exact .any) (SlTo_cons (by first | exact .rd .d | exact .any) (SlTo_cons (by first | exact .rd .d | exact .any) SlTo_nil)))))
        exact ⟨by rw [hI2, if_pos (by simp_all)]; simp, by omega⟩
    · skip
      have hj2 : i = (callsIn u.b).length := by
        have : ¬ i < (callsIn u.b).length := by simpa using hc2
        omega
      subst hj2
      refine AC_exit ?_
      refine hK7 _ _ _ ?_
      refine AC_region ?_
      refine AL_ev (Ev_move) rfl ?_
      first | refine AL_ev (Ev_add rfl rfl _ (wrap_id (by first | omega | (simp; omega)) (by first | omega | (simp; omega)))) rfl ?_ | refine AL_ev (Ev_add rfl rfl _ rfl) rfl ?_
      refine AL_ev (Ev_assign) rfl ?_
      refine AL_nil ?_
      refine closeS (j + 1, ou2) [some 0] rfl rfl (by show cs.length - (j + 1) < cs.length - j; omega) ⟨hlt, ?_⟩ (BxTo_some rfl rfl rfl rfl (by first | exact VwL_app (by first | rfl | (simp [injWs, injW]; done) | simp_all [injWs, injW]) | exact VwL_dd (by first | rfl | (simp [injWs, injW]; done) | simp_all [injWs, injW]) | exact VwL_of (by first | rfl | (simp [injWs, injW]; done) | simp_all [injWs, injW])) BxTo_nil) (SlTo_cons (by first | exact .rd .d | exact Vw_int (by first | rfl | assumption | omega | (simp; done) | (simp; omega)) | exact Vw_c (by first | rfl | (simp; done) | simp_all) | exact .any) (SlTo_cons (Vw_refe rfl (by first | rfl | simp | (simp; omega))) (SlTo_cons (by first | exact .rd (.ptr (srcFree rfl) rfl rfl rfl .d) | exact .rd .d) SlTo_nil)))
      rw [List.drop_length, wmC, List.append_nil] at hI2
      rw [List.drop_length] at ho2
      exact ⟨by rw [hI, ← List.append_assoc, hI2], by simp at ho2; omega⟩
  · skip
    have hj2 : j = cs.length := by
      have : ¬ j < cs.length := by simpa using hc1
      omega
    subst hj2
    rw [List.drop_length] at hI
    refine AC_exit ?_
    refine hK3 _ _ _ ?_
    refine AC_seq fun K14 hK14 => ?_
    refine AC_region ?_
    refine AL_ev (Ev_move) rfl ?_
    refine AL_ev (Ev_assign) rfl ?_
    refine AL_nil ?_
    refine hK14 _ _ _ ?_
    refine AC_ret ?_
    refine ret_ok hdm (.tmp rfl rfl .nil) (.cons (.ref trivial rfl rfl (by simp) (ReadsL_d _)) .nil) ?_
    rw [wmF, List.append_nil] at hI
    rw [hI]

set_option maxHeartbeats 1000000 in
set_option maxRecDepth 4000 in
theorem c_lawWarnMissing (d : Dbt) (hb : bulkD d ≤ 1048576) : PCall Tryd.prog 12 [injD d] (· = [.c (.bool true)]) := by
  have hcs := cntCs_nn d.cs
  have hcb := cntCs_bulk d.cs
  obtain ⟨hb1, hb2, hb3, hb4⟩ := bulkD_bd (cs := d.cs) (op := d.op) (B := 1048576) hb
  have hS : OCall Tryd.prog 51 [injD d] (.sl LW (injWs (wmF d 0 d.cs))) := c_warnMissing d hb
  have hrl : ((wmF d 0 d.cs).length : Int) ≤ 274877906943 := by have := wmF_len d d.cs 0; have := wC_bulk d.cs; omega
  refine PCall_of (n := 69) Tryd.func12 rfl rfl (Nat.le_of_ble_eq_true rfl) fun C hdm hT0 => ?_
  have hT := hT0
  have hX0 := CExt.refl C
  refine AC_seq fun K1 hK1 => ?_
  refine AC_region ?_
  refine AL_box (Lay.st [.one, .one]) (nf rfl) rfl (by first | rfl | simp [Lay.len, Lay.lens]) _ rfl rfl ?_
  refine AL_ev (Ev_assign) rfl ?_
  refine AL_nil ?_
  refine hK1 _ _ _ ?_
  refine AC_seq fun K2 hK2 => ?_
  refine AC_region ?_
  refine AL_ev (Ev_assign) rfl ?_
  refine AL_nil ?_
  refine hK2 _ _ _ ?_
  refine AC_seq fun K3 hK3 => ?_
  refine AC_region ?_
  first | refine AL_ev (Ev_load_ptr rfl rfl rfl rfl rfl rfl ts25 ta25 (by first | rfl | simp) (by intro h; cases h)) rfl ?_ | refine AL_ev (Ev_load_rp rfl rfl rfl ts25 ta25 (by first | rfl | simp) (by intro h; cases h)) rfl ?_
  refine AL_ev (Ev_move) rfl ?_
  refine AL_fcall0 hT rfl cl15 (c_szDb d 1048576 hb (by omega)) rfl rfl ?_
  refine AL_ev (Ev_assign) rfl ?_
  refine AL_nil ?_
  refine hK3 _ _ _ ?_
  refine AC_seq fun K4 hK4 => ?_
  refine AC_seq fun K5 hK5 => ?_
  refine AC_region ?_
  refine AL_ev (Ev_move) rfl ?_
  refine AL_ev (Ev_lss rfl rfl) rfl ?_
  refine AL_nil ?_
  refine hK5 _ _ _ ?_
  refine AC_cond rfl (fun hc1 => ?_) (fun hc1 => ?_)
  · skip
    have : (1048576 : Int) - (bulkD d) < 0 := by simpa using hc1
    omega
  · skip
    refine AC_skip ?_
    refine hK4 _ _ _ ?_
    refine AC_seq fun K6 hK6 => ?_
    refine AC_region ?_
    first | refine AL_ev (Ev_load_ptr rfl rfl rfl rfl rfl rfl ts25 ta25 (by first | rfl | simp) (by intro h; cases h)) rfl ?_ | refine AL_ev (Ev_load_rp rfl rfl rfl ts25 ta25 (by first | rfl | simp) (by intro h; cases h)) rfl ?_
    refine AL_fcall0 hT rfl cl17 ((c_toDb d).pcall) rfl rfl ?_
    refine AL_fcall0 hT rfl cl50 (c_specWarnMissing d hb) rfl rfl ?_
    refine AL_ev (Ev_assign) rfl ?_
    refine AL_nil ?_
    refine hK6 _ _ _ ?_
    refine AC_seq fun K7 hK7 => ?_
    refine AC_region ?_
    first | refine AL_ev (Ev_load_ptr rfl rfl rfl rfl rfl rfl ts25 ta25 (by first | rfl | simp) (by intro h; cases h)) rfl ?_ | refine AL_ev (Ev_load_rp rfl rfl rfl ts25 ta25 (by first | rfl | simp) (by intro h; cases h)) rfl ?_
    refine AL_ocall0 hT LD rfl cl17 (c_toDb d) rfl (injD_lenL d) (injD_agL d) rfl fun C1 cs1 K1 hg1 => ?_
    have hX1 := hX0.trans hg1.ext
    have hT := hT.ext hg1.ext
    have hx := hg1.has
    refine AL_alloc zo30 _ rfl rfl ?_
    first | refine AL_store rfl (nf rfl) rfl rfl rfl rfl rfl rfl (by first | rfl | simp [Lay.len, Lay.lens]) ts30 rfl rfl ?_ | refine AL_store rfl (nf rfl) rfl rfl rfl hes rfl rfl (by first | rfl | simp [Lay.len, Lay.lens]) ts30 rfl rfl ?_
    refine AL_nil ?_
    refine hK7 _ _ _ ?_
    refine AC_seq fun K8 hK8 => ?_
    refine AC_region ?_
    first | refine AL_ev (Ev_load_ptr rfl rfl rfl rfl rfl rfl ts30 ta30 (by first | rfl | simp) (by intro h; cases h)) rfl ?_ | refine AL_ev (Ev_load_rp rfl rfl rfl ts30 ta30 (by first | rfl | simp) (by intro h; cases h)) rfl ?_
    refine AL_qocall hT .one rfl cl51 hS (.cons (.raw (l := LD) (cs := cs1) hx hg1.len (injD_agL d)) .nil) rfl rfl rfl fun C9 cs9 K9 hg9 => ?_
    have hap := hg9.apart hx
    have hx := hx.ext hg9.ext
    have hX9 := hX1.trans hg9.ext
    have hT := hT.ext hg9.ext
    obtain ⟨A9, rfl⟩ := one_cell_of hg9.has
    have hG := hg9.has
    refine AL_ev (Ev_assign) rfl ?_
    refine AL_nil ?_
    refine hK8 _ _ _ ?_
    refine AC_seq fun K9 hK9 => ?_
    refine AC_seq fun K10 hK10 => ?_
    refine AC_region ?_
    refine AL_ev (Ev_move) rfl ?_
    refine AL_ev (Ev_move) rfl ?_
    refine AL_qcall hT rfl cl37 (c_eqWarningS (wmF d 0 d.cs)) (.cons (.raw (l := .one) (cs := [A9]) hG rfl rfl) (.cons (.rd .d) .nil)) rfl ?_
    refine AL_ev (Ev_not rfl) rfl ?_
    refine AL_nil ?_
    refine hK10 _ _ _ ?_
    refine AC_cond rfl (fun hc2 => ?_) (fun hc2 => ?_)
    · skip
      exact absurd hc2 (by simp)
    · skip
      refine AC_skip ?_
      refine hK9 _ _ _ ?_
      refine AC_seq fun K11 hK11 => ?_
      refine AC_seq fun K12 hK12 => ?_
      refine AC_draw hT follows [0, 1, 2, 3, 4] (by kernel_rfl) ?_
      first | refine DT_ev rfl (EA_load_ptr rfl rfl rfl rfl rfl rfl ts30 ta30 (by first | rfl | simp) (by intro h; cases h)) rfl ?_ | refine DT_ev rfl (EA_load_rp rfl rfl rfl ts30 ta30 (by first | rfl | simp) (by intro h; cases h)) rfl ?_
      first | refine DT_ev rfl (EA_load_ptr rfl rfl rfl rfl rfl rfl ts25 ta25 (by first | rfl | simp) (by intro h; cases h)) rfl ?_ | refine DT_ev rfl (EA_load_rp rfl rfl rfl ts25 ta25 (by first | rfl | simp) (by intro h; cases h)) rfl ?_
      refine DT_fcall0 rfl rfl cl17 ((c_toDb d).pcall) rfl rfl ?_
      refine DT_qcall hT rfl rfl cl20 (c_eqDb d) (fun L2 => .cons (.raw (l := LD) (cs := cs1) hx hg1.len (injD_agL d)) (.cons (.rd .d) .nil)) rfl (by kernel_rfl) ?_
      refine DT_ev rfl (EA_not rfl) rfl ?_
      refine DTi.nil ?_
      refine hK12 _ _ _ ?_
      refine AC_cond rfl (fun hc3 => ?_) (fun hc3 => ?_)
      · skip
        exact absurd hc3 (by simp)
      · skip
        refine AC_skip ?_
        refine hK11 _ _ _ ?_
        refine AC_seq fun K13 hK13 => ?_
        refine AC_region ?_
        refine AL_ev (Ev_assign) rfl ?_
        refine AL_nil ?_
        refine hK13 _ _ _ ?_
        refine AC_seq fun K14 hK14 => ?_
        refine AC_region ?_
        first | refine AL_ev (Ev_load_ptr rfl rfl rfl rfl rfl rfl ts30 ta30 (by first | rfl | simp) (by intro h; cases h)) rfl ?_ | refine AL_ev (Ev_load_rp rfl rfl rfl ts30 ta30 (by first | rfl | simp) (by intro h; cases h)) rfl ?_
        refine AL_ev (Ev_move) rfl ?_
        refine AL_mwk LD rfl cl21 (c_markDb d 1 (by omega) (by omega)) hx hg1.len (injD_agL d) rfl rfl rfl fun C3 hk3 => ?_
        have hX3 := hX9.marked hk3 (fun b hb => .inr (hx.lo b hb))
        have hT := hT0.ext hX3
        have hG := hG.marked hk3 hap
        refine AL_ev (Ev_assign) rfl ?_
        refine AL_nil ?_
        refine hK14 _ _ _ ?_
        refine AC_seq fun K15 hK15 => ?_
        refine AC_seq fun K16 hK16 => ?_
        refine AC_region ?_
        refine AL_ev (Ev_move) rfl ?_
        refine AL_ev (Ev_lss rfl rfl) rfl ?_
        refine AL_ev (Ev_move) rfl ?_
        refine AL_bool 37 rfl (fun hg4 => ?_) (fun hg4 => ?_)
        · skip
          have : (1 : Int) + (cntCs d.cs + d.op.length) < 0 := by simpa [Int.add_assoc] using hg4
          omega
        · skip
          refine AL_guard_t rfl rfl rfl ?_
          refine AL_ev (Ev_move) rfl ?_
          refine AL_guard_t rfl rfl rfl ?_
          refine AL_ev (Ev_move) rfl ?_
          refine AL_guard_t rfl rfl rfl ?_
          refine AL_qcall hT rfl cl37 (c_eqWarningS (wmF d 0 d.cs)) (.cons (.raw (l := .one) (cs := [A9]) hG rfl rfl) (.cons (.rd .d) .nil)) rfl ?_
          refine AL_guard_t rfl rfl rfl ?_
          refine AL_ev (Ev_not rfl) rfl ?_
          refine AL_ev (Ev_pick rfl) rfl ?_
          refine AL_nil ?_
          refine hK16 _ _ _ ?_
          refine AC_cond rfl (fun hc5 => ?_) (fun hc5 => ?_)
          · skip
            exact absurd hc5 (by simp)
          · skip
            refine AC_skip ?_
            refine hK15 _ _ _ ?_
            refine AC_seq fun K17 hK17 => ?_
            refine AC_region ?_
            refine AL_ev (Ev_assign) rfl ?_
            refine AL_nil ?_
            refine hK17 _ _ _ ?_
            refine AC_seq fun K18 hK18 => ?_
            refine AC_region ?_
            refine AL_ev (Ev_move) rfl ?_
            refine AL_ev (Ev_move) rfl ?_
            refine AL_mcall .one rfl cl38 (c_markWarningS (wmF d 0 d.cs) 1 (by omega) (by omega)) hG rfl rfl rfl rfl rfl fun C4 hk4 hG4 => ?_
            have hX4 := hX3.marked hk4 (fun b hb => .inr (Nat.le_trans hX1.pres.size (hG.lo b hb)))
            have hT := hT0.ext hX4
            refine AL_ev (Ev_assign) rfl ?_
            refine AL_nil ?_
            refine hK18 _ _ _ ?_
            refine AC_seq fun K19 hK19 => ?_
            refine AC_region ?_
            refine AL_ev (Ev_assign) rfl ?_
            refine AL_nil ?_
            refine hK19 _ _ _ ?_
            refine AC_seq fun K20 hK20 => ?_
            refine AC_region ?_
            refine AL_ev (Ev_move) rfl ?_
            refine AL_ev (Ev_move) rfl ?_
            refine AL_qcall hT rfl cl39 (c_heldWarningS (wmF d 0 d.cs).length 1 (by omega) (by omega)) (.cons (.raw (l := .one) (cs := [A9]) hG4 rfl rfl) (.cons (.rd .d) .nil)) rfl ?_
            refine AL_ev (Ev_assign) rfl ?_
            refine AL_nil ?_
            refine hK20 _ _ _ ?_
            refine AC_seq fun K21 hK21 => ?_
            refine AC_seq fun K22 hK22 => ?_
            refine AC_region ?_
            refine AL_ev (Ev_move) rfl ?_
            refine AL_ev (Ev_lss rfl rfl) rfl ?_
            refine AL_nil ?_
            refine hK22 _ _ _ ?_
            refine AC_cond rfl (fun hc6 => ?_) (fun hc6 => ?_)
            · skip
              have : (1 : Int) + (3 * ((wmF d 0 d.cs).length : Int)) < 0 := by simpa using hc6
              omega
            · skip
              refine AC_skip ?_
              refine hK21 _ _ _ ?_
              refine AC_seq fun K23 hK23 => ?_
              refine AC_seq fun K24 hK24 => ?_
              refine AC_region ?_
              refine AL_ev (Ev_move) rfl ?_
              refine AL_ev (Ev_move) rfl ?_
              refine AL_ev (Ev_neq rfl rfl) rfl ?_
              refine AL_nil ?_
              refine hK24 _ _ _ ?_
              refine AC_cond rfl (fun hc7 => ?_) (fun hc7 => ?_)
              · skip
                exact absurd hc7 (by simp)
              · skip
                refine AC_skip ?_
                refine hK23 _ _ _ ?_
                refine AC_seq fun K25 hK25 => ?_
                refine AC_region ?_
                first | refine AL_ev (Ev_load_ptr rfl rfl rfl rfl rfl rfl ts25 ta25 (by first | rfl | simp) (by intro h; cases h)) rfl ?_ | refine AL_ev (Ev_load_rp rfl rfl rfl ts25 ta25 (by first | rfl | simp) (by intro h; cases h)) rfl ?_
                refine AL_fcall0 hT rfl cl17 ((c_toDb d).pcall) rfl rfl ?_
                refine AL_fcall0 hT rfl cl51 (hS.pcall) rfl rfl ?_
                refine AL_ev (Ev_assign) rfl ?_
                refine AL_nil ?_
                refine hK25 _ _ _ ?_
                refine AC_seq fun K26 hK26 => ?_
                refine AC_seq fun K27 hK27 => ?_
                refine AC_region ?_
                refine AL_ev (Ev_move) rfl ?_
                refine AL_ev (Ev_move) rfl ?_
                refine AL_fcall0 hT rfl cl37 (c_eqWarningS (wmF d 0 d.cs)) rfl rfl ?_
                refine AL_ev (Ev_not rfl) rfl ?_
                refine AL_nil ?_
                refine hK27 _ _ _ ?_
                refine AC_cond rfl (fun hc8 => ?_) (fun hc8 => ?_)
                · skip
                  exact absurd hc8 (by simp)
                · skip
                  refine AC_skip ?_
                  refine hK26 _ _ _ ?_
                  refine AC_seq fun K28 hK28 => ?_
                  refine AC_region ?_
                  refine AL_ev (Ev_assign) rfl ?_
                  refine AL_nil ?_
                  refine hK28 _ _ _ ?_
                  refine AC_seq fun K29 hK29 => ?_
                  refine AC_region ?_
                  refine AL_ev (Ev_move) rfl ?_
                  refine AL_ev (Ev_move) rfl ?_
                  refine AL_qcall hT rfl cl39 (c_heldWarningS (wmF d 0 d.cs).length 1 (by omega) (by omega)) (.cons (.raw (l := .one) (cs := [A9]) hG4 rfl rfl) (.cons (.rd .d) .nil)) rfl ?_
                  refine AL_ev (Ev_assign) rfl ?_
                  refine AL_nil ?_
                  refine hK29 _ _ _ ?_
                  refine AC_seq fun K30 hK30 => ?_
                  refine AC_seq fun K31 hK31 => ?_
                  refine AC_region ?_
                  refine AL_ev (Ev_move) rfl ?_
                  refine AL_ev (Ev_lss rfl rfl) rfl ?_
                  refine AL_nil ?_
                  refine hK31 _ _ _ ?_
                  refine AC_cond rfl (fun hc9 => ?_) (fun hc9 => ?_)
                  · skip
                    have : (1 : Int) + (3 * ((wmF d 0 d.cs).length : Int)) < 0 := by simpa using hc9
                    omega
                  · skip
                    refine AC_skip ?_
                    refine hK30 _ _ _ ?_
                    refine AC_seq fun K32 hK32 => ?_
                    refine AC_seq fun K33 hK33 => ?_
                    refine AC_region ?_
                    refine AL_ev (Ev_move) rfl ?_
                    refine AL_ev (Ev_move) rfl ?_
                    refine AL_ev (Ev_neq rfl rfl) rfl ?_
                    refine AL_nil ?_
                    refine hK33 _ _ _ ?_
                    refine AC_cond rfl (fun hc10 => ?_) (fun hc10 => ?_)
                    · skip
                      exact absurd hc10 (by simp)
                    · skip
                      refine AC_skip ?_
                      refine hK32 _ _ _ ?_
                      refine AC_seq fun K34 hK34 => ?_
                      refine AC_region ?_
                      refine AL_ev (Ev_assign) rfl ?_
                      refine AL_nil ?_
                      refine hK34 _ _ _ ?_
                      refine AC_ret ?_
                      exact ret_okX hX4 hdm (.tmp rfl rfl .nil) (.cons .d .nil) rfl

end Go.Proofs.YtleahipnknainaaDoor
