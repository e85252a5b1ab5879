/- Contracts of functions. -/
import Derived.Test.YtleahipnknainaaDoorMt
import Derived.Test.YtleahipnknainaaDoorOk
import Derived.Test.YtleahipnknainaaDoorWn
import Derived.Test.YtleahipnknainaaDoorEng27
import Derived.Test.YtleahipnknainaaDoorEng28
import Derived.Test.YtleahipnknainaaDoorProg
import Derived.KernelRfl
import Derived.Test.YtleahipnknainaaDoorCA
import Derived.Test.YtleahipnknainaaDoorCD
import Derived.Test.YtleahipnknainaaDoorCF
set_option linter.unusedVariables false
set_option linter.unusedSimpArgs false
namespace Go.Proofs.YtleahipnknainaaDoor
open Go.Eng

theorem cl110 : Callable Tryd.prog 110 := Callable_of Tryd.func110 (by kernel_rfl) (by kernel_rfl)
theorem cl94 : Callable Tryd.prog 94 := Callable_of Tryd.func94 (by kernel_rfl) (by kernel_rfl)

set_option maxHeartbeats 1000000 in
set_option maxRecDepth 4000 in
theorem c_indexS (xs : List ByteArray) (s : ByteArray) : PCall Tryd.prog 110 [.sl .one (strs xs), .c (.string s)] (· = [.c (.int .i64 (idxS xs s 0))]) := by
  refine PCall_of (n := 19) Tryd.func110 rfl rfl (Nat.le_of_ble_eq_true rfl) fun C hdm hT0 => ?_
  have hT := hT0
  refine AC_seq fun K1 hK1 => ?_
  refine AC_region ?_
  refine AL_ev (Ev_assign) rfl ?_
  refine AL_nil ?_
  refine hK1 _ _ _ ?_
  refine AC_seq fun K2 hK2 => ?_
  refine AC_seq fun K3 hK3 => ?_
  refine AC_region ?_
  refine AL_ev (Ev_move) rfl ?_
  first | refine AL_lim (x := (Operand.tmp 6)) rfl fun hl1 => ?_ | refine AL_limB (x := (Operand.tmp 6)) rfl rfl (by first | rfl | (simp; done) | (simp; omega)) fun hl1 => ?_ | have hl1 := True.intro
  try simp only [injs_length, ints_length, strs_length, injCs_length, List.length_map] at hl1
  first | refine AL_ev (Ev_len_strs te23 rfl) rfl ?_ | refine AL_ev (Ev_len_sl te23 rfl) rfl ?_ | refine AL_ev (Ev_len_ref te23 rfl) rfl ?_ | refine AL_ev (Ev_len_nil te23 rfl) rfl ?_ | refine AL_ev (Ev_len_c te23 rfl) rfl ?_
  refine AL_ev (Ev_move) rfl ?_
  refine AL_nil ?_
  refine hK3 _ _ _ ?_
  refine AC_block ?_
  refine AC_loopS [0, 1, 7] (Nat) (fun j => [(8, i64 j)]) (fun j => []) (fun st => xs.length - st) (fun j => j ≤ xs.length ∧ idxS xs s 0 = idxS (xs.drop j) s j) (0) ?_ ?_ ?_
  · skip
    exact enterS [] rfl rfl BxTo_nil (SlTo_cons (by first | exact .rd .d | exact Vw_int (by first | rfl | assumption | omega | (simp; done) | (simp; omega)) | exact Vw_c (by first | rfl | (simp; done) | simp_all) | exact .any) (SlTo_cons (by first | exact .rd .d | exact .any) (SlTo_cons (by first | exact .rd .d | exact .any) (SlTo_cons (by first | exact .rd .d | exact .any) SlTo_nil))))
  · skip
    exact ⟨Nat.zero_le _, by simp⟩
  rintro j ⟨hj, hI⟩
  show AC _ _ _ _ _ (FS [0, 1, 7] _ [(8, i64 j)]) []
  refine AC_seq fun K4 hK4 => ?_
  refine AC_region ?_
  refine AL_ev (Ev_lss rfl rfl) rfl ?_
  refine AL_nil ?_
  refine hK4 _ _ _ ?_
  refine AC_seq fun K5 hK5 => ?_
  refine AC_cond rfl (fun hc1 => ?_) (fun hc1 => ?_)
  · skip
    have hlt : j < xs.length := by simpa using hc1
    obtain ⟨u, hu⟩ : ∃ x, xs[j]? = some x := ⟨_, List.getElem?_eq_getElem hlt⟩
    have hu2 := strs_get hu
    have hdr := drop_get hu
    refine AC_skip ?_
    refine hK5 _ _ _ ?_
    refine AC_seq fun K6 hK6 => ?_
    refine AC_block ?_
    refine AC_seq fun K7 hK7 => ?_
    refine AC_region ?_
    refine AL_ev (Ev_move) rfl ?_
    refine AL_ev (Ev_assign) rfl ?_
    refine AL_nil ?_
    refine hK7 _ _ _ ?_
    refine AC_seq fun K8 hK8 => ?_
    refine AC_region ?_
    refine AL_ev (Ev_move) rfl ?_
    refine AL_ev (Ev_move) rfl ?_
    refine AL_ev (Ev_move) rfl ?_
    first | refine AL_ev (Ev_ix_sl rfl rfl te23 ts9 (by omega) (by assumption)) rfl ?_ | refine AL_ev (Ev_ix_ref rfl rfl te23 ts9 (by omega) (by first | omega | (simp; omega))) rfl ?_
    first | refine AL_ev (Ev_load_ptr rfl rfl rfl rfl rfl rfl ts9 ta9 rfl (fun _ => rfl)) rfl ?_ | refine AL_ev (Ev_load_rp rfl rfl rfl ts9 ta9 rfl (fun _ => rfl)) rfl ?_
    refine AL_ev (Ev_seql rfl rfl) rfl ?_
    refine AL_nil ?_
    refine hK8 _ _ _ ?_
    refine AC_cond rfl (fun hc2 => ?_) (fun hc2 => ?_)
    · skip
      refine AC_seq fun K9 hK9 => ?_
      refine AC_region ?_
      refine AL_ev (Ev_move) rfl ?_
      refine AL_ev (Ev_assign) rfl ?_
      refine AL_nil ?_
      refine hK9 _ _ _ ?_
      refine AC_ret ?_
      refine ret_ok hdm (.tmp rfl rfl .nil) (.cons .d .nil) ?_
      try rw [hI]
      try rw [hdr]
      try simp_all [List.length_pos_iff, idxS, eq_comm]
      try omega
    · skip
      refine AC_skip ?_
      refine hK6 _ _ _ ?_
      refine AC_region ?_
      first | refine AL_ev (Ev_add rfl rfl _ (wrap_id (by first | omega | (simp; omega)) (by first | omega | (simp; omega)))) rfl ?_ | refine AL_ev (Ev_add rfl rfl _ rfl) rfl ?_
      refine AL_ev (Ev_move) rfl ?_
      refine AL_nil ?_
      refine closeS (j + 1) [] rfl rfl (by show xs.length - (j + 1) < xs.length - j; omega) ⟨hlt, ?_⟩ BxTo_nil (SlTo_cons (by first | exact .rd .d | exact Vw_int (by first | rfl | assumption | omega | (simp; done) | (simp; omega)) | exact Vw_c (by first | rfl | (simp; done) | simp_all) | exact .any) (SlTo_cons (by first | exact .rd .d | exact .any) (SlTo_cons (by first | exact .rd .d | exact .any) (SlTo_cons (by first | exact .rd .d | exact .any) SlTo_nil))))
      rw [hI]
      try rw [hdr]
      try simp_all [idxS, eq_comm]
      try omega
  · skip
    have hj2 : j = xs.length := by
      have : ¬ j < xs.length := by simpa using hc1
      omega
    subst hj2
    rw [List.drop_length] at hI
    refine AC_exit ?_
    refine hK2 _ _ _ ?_
    refine AC_seq fun K10 hK10 => ?_
    refine AC_region ?_
    refine AL_ev (Ev_assign) rfl ?_
    refine AL_nil ?_
    refine hK10 _ _ _ ?_
    refine AC_ret ?_
    refine ret_ok hdm (.tmp rfl rfl .nil) (.cons .d .nil) ?_
    try rw [hI]
    try rw [hdr]
    try simp_all [List.length_pos_iff, idxS, eq_comm]
    try omega

set_option maxHeartbeats 1000000 in
set_option maxRecDepth 4000 in
theorem c_containsS (xs : List ByteArray) (s : ByteArray) : PCall Tryd.prog 85 [.sl .one (strs xs), .c (.string s)] (· = [.c (.bool (hasS xs s))]) := by
  refine PCall_of (n := 9) Tryd.func85 rfl rfl (Nat.le_of_ble_eq_true rfl) fun C hdm hT0 => ?_
  have hT := hT0
  refine AC_seq fun K1 hK1 => ?_
  refine AC_region ?_
  refine AL_ev (Ev_assign) rfl ?_
  refine AL_nil ?_
  refine hK1 _ _ _ ?_
  refine AC_seq fun K2 hK2 => ?_
  refine AC_region ?_
  refine AL_ev (Ev_move) rfl ?_
  refine AL_ev (Ev_move) rfl ?_
  refine AL_fcall0 hT rfl cl110 (c_indexS xs s) rfl rfl ?_
  refine AL_ev (Ev_geq rfl rfl) rfl ?_
  refine AL_ev (Ev_assign) rfl ?_
  refine AL_nil ?_
  refine hK2 _ _ _ ?_
  refine AC_ret ?_
  refine ret_ok hdm (.tmp rfl rfl .nil) (.cons .d .nil) ?_
  rw [idxS_has]

set_option maxHeartbeats 1000000 in
set_option maxRecDepth 4000 in
theorem c_specPredOf (t : T) (hb : bulk t ≤ 1099511627776) : PCall Tryd.prog 60 [inj t] (· = [.c (.string (predS t))]) := by
  obtain ⟨k, s, m, ks⟩ := t
  obtain ⟨hs, hkl, hku⟩ := bulk_mk hb
  have hsz : s.size + (⟨#[47]⟩ : ByteArray).size ≤ 4611686018427387904 := by
    have : (⟨#[47]⟩ : ByteArray).size = 1 := rfl
    omega
  have hdz := dec_size (ks.length : Int) (by omega) (by omega)
  have hsz2 : (s ++ (⟨#[47]⟩ : ByteArray)).size + (dec ks.length).size ≤ 4611686018427387904 := by
    have : (⟨#[47]⟩ : ByteArray).size = 1 := rfl
    rw [ByteArray.size_append]
    omega
  refine PCall_of (n := 19) Tryd.func60 rfl rfl (Nat.le_of_ble_eq_true rfl) fun C hdm hT0 => ?_
  have hT := hT0
  refine AC_seq fun K1 hK1 => ?_
  refine AC_region ?_
  refine AL_box (Lay.st [.one, .one, .one, .one]) (nf rfl) rfl (by first | rfl | simp [Lay.len, Lay.lens]) _ rfl rfl ?_
  refine AL_ev (Ev_assign) rfl ?_
  refine AL_nil ?_
  refine hK1 _ _ _ ?_
  refine AC_seq fun K2 hK2 => ?_
  refine AC_seq fun K3 hK3 => ?_
  refine AC_region ?_
  first | refine AL_ev (Ev_fa_ptr rfl fa45_0 rfl rfl) rfl ?_ | refine AL_ev (Ev_fa_rp rfl fa45_0 rfl rfl) rfl ?_
  first | refine AL_ev (Ev_load_ptr rfl rfl rfl rfl rfl rfl ts3 ta3 rfl (fun _ => rfl)) rfl ?_ | refine AL_ev (Ev_load_rp rfl rfl rfl ts3 ta3 rfl (fun _ => rfl)) rfl ?_
  refine AL_ev (Ev_neq rfl rfl) rfl ?_
  refine AL_ev (Ev_move) rfl ?_
  refine AL_bool 6 rfl (fun hg1 => ?_) (fun hg1 => ?_)
  · skip
    refine AL_guard_t rfl rfl rfl ?_
    first | refine AL_ev (Ev_fa_ptr rfl fa45_0 rfl rfl) rfl ?_ | refine AL_ev (Ev_fa_rp rfl fa45_0 rfl rfl) rfl ?_
    refine AL_guard_t rfl rfl rfl ?_
    first | refine AL_ev (Ev_load_ptr rfl rfl rfl rfl rfl rfl ts3 ta3 rfl (fun _ => rfl)) rfl ?_ | refine AL_ev (Ev_load_rp rfl rfl rfl ts3 ta3 rfl (fun _ => rfl)) rfl ?_
    refine AL_guard_t rfl rfl rfl ?_
    refine AL_ev (Ev_neq rfl rfl) rfl ?_
    refine AL_ev (Ev_pick rfl) rfl ?_
    refine AL_nil ?_
    refine hK3 _ _ _ ?_
    refine AC_cond rfl (fun hc2 => ?_) (fun hc2 => ?_)
    · skip
      refine AC_seq fun K4 hK4 => ?_
      refine AC_region ?_
      refine AL_ev (Ev_assign) rfl ?_
      refine AL_nil ?_
      refine hK4 _ _ _ ?_
      refine AC_ret ?_
      refine ret_ok hdm (.tmp rfl rfl .nil) (.cons .d .nil) ?_
      try rw [predS]
      try rw [hI]
      try rw [hdr]
      try simp_all [List.length_pos_iff, T.kind, T.name, T.kids, slash]
      try omega
    · skip
      refine AC_skip ?_
      refine hK2 _ _ _ ?_
      refine AC_seq fun K5 hK5 => ?_
      refine AC_draw hT follows [0, 1, 2, 3, 4, 5, 6, 7, 8] (by kernel_rfl) ?_
      first | refine DT_ev rfl (EA_fa_ptr rfl fa45_1 rfl rfl) rfl ?_ | refine DT_ev rfl (EA_fa_rp rfl fa45_1 rfl rfl) rfl ?_
      first | refine DT_ev rfl (EA_load_ptr rfl rfl rfl rfl rfl rfl ts9 ta9 rfl (fun _ => rfl)) rfl ?_ | refine DT_ev rfl (EA_load_rp rfl rfl rfl ts9 ta9 rfl (fun _ => rfl)) rfl ?_
      refine DT_ev rfl (EA_sadd rfl rfl (by first | assumption | omega)) rfl ?_
      first | refine DT_ev rfl (EA_fa_ptr rfl fa45_3 rfl rfl) rfl ?_ | refine DT_ev rfl (EA_fa_rp rfl fa45_3 rfl rfl) rfl ?_
      first | refine DT_ev rfl (EA_load_ptr rfl rfl rfl rfl rfl rfl ts41 ta41 rfl (fun _ => rfl)) rfl ?_ | refine DT_ev rfl (EA_load_rp rfl rfl rfl ts41 ta41 rfl (fun _ => rfl)) rfl ?_
      first | refine DT_ev rfl (EA_len_injs te41 rfl) rfl ?_ | refine DT_ev rfl (EA_len_sl te41 rfl) rfl ?_ | refine DT_ev rfl (EA_len_ref te41 rfl) rfl ?_ | refine DT_ev rfl (EA_len_nil te41 rfl) rfl ?_
      refine DT_fcall0 rfl rfl cl94 (c_specDecimal ks.length (by omega) (by omega)) rfl rfl ?_
      refine DT_ev rfl (EA_sadd rfl rfl (by first | assumption | omega)) rfl ?_
      refine DT_ev rfl (EA_assign) rfl ?_
      refine DTi.nil ?_
      refine hK5 _ _ _ ?_
      refine AC_ret ?_
      refine ret_ok hdm (.tmp rfl rfl .nil) (.cons .d .nil) ?_
      try rw [predS]
      try rw [hI]
      try rw [hdr]
      try simp_all [List.length_pos_iff, T.kind, T.name, T.kids, slash]
      try omega
  · skip
    refine AL_guard_f rfl rfl rfl rfl ?_
    refine AL_guard_f rfl rfl rfl rfl ?_
    refine AL_guard_f rfl rfl rfl rfl ?_
    refine AL_ev (Ev_pick rfl) rfl ?_
    refine AL_nil ?_
    refine hK3 _ _ _ ?_
    first | refine AC_cond_f rfl ?_ | refine AC_cond_f (congrArg bl hc2) ?_
    refine AC_skip ?_
    refine hK2 _ _ _ ?_
    refine AC_seq fun K6 hK6 => ?_
    refine AC_draw hT follows [0, 1, 2, 3, 4, 5, 6, 7, 8] (by kernel_rfl) ?_
    first | refine DT_ev rfl (EA_fa_ptr rfl fa45_1 rfl rfl) rfl ?_ | refine DT_ev rfl (EA_fa_rp rfl fa45_1 rfl rfl) rfl ?_
    first | refine DT_ev rfl (EA_load_ptr rfl rfl rfl rfl rfl rfl ts9 ta9 rfl (fun _ => rfl)) rfl ?_ | refine DT_ev rfl (EA_load_rp rfl rfl rfl ts9 ta9 rfl (fun _ => rfl)) rfl ?_
    refine DT_ev rfl (EA_sadd rfl rfl (by first | assumption | omega)) rfl ?_
    first | refine DT_ev rfl (EA_fa_ptr rfl fa45_3 rfl rfl) rfl ?_ | refine DT_ev rfl (EA_fa_rp rfl fa45_3 rfl rfl) rfl ?_
    first | refine DT_ev rfl (EA_load_ptr rfl rfl rfl rfl rfl rfl ts41 ta41 rfl (fun _ => rfl)) rfl ?_ | refine DT_ev rfl (EA_load_rp rfl rfl rfl ts41 ta41 rfl (fun _ => rfl)) rfl ?_
    first | refine DT_ev rfl (EA_len_injs te41 rfl) rfl ?_ | refine DT_ev rfl (EA_len_sl te41 rfl) rfl ?_ | refine DT_ev rfl (EA_len_ref te41 rfl) rfl ?_ | refine DT_ev rfl (EA_len_nil te41 rfl) rfl ?_
    refine DT_fcall0 rfl rfl cl94 (c_specDecimal ks.length (by omega) (by omega)) rfl rfl ?_
    refine DT_ev rfl (EA_sadd rfl rfl (by first | assumption | omega)) rfl ?_
    refine DT_ev rfl (EA_assign) rfl ?_
    refine DTi.nil ?_
    refine hK6 _ _ _ ?_
    refine AC_ret ?_
    refine ret_ok hdm (.tmp rfl rfl .nil) (.cons .d .nil) ?_
    try rw [predS]
    try rw [hI]
    try rw [hdr]
    try simp_all [List.length_pos_iff, T.kind, T.name, T.kids, slash]
    try omega

end Go.Proofs.YtleahipnknainaaDoor
