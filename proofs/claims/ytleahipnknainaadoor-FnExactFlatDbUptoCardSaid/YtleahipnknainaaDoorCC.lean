/- Contracts of functions. -/
import Derived.Test.YtleahipnknainaaDoorMt
import Derived.Test.YtleahipnknainaaDoorOk
import Derived.Test.YtleahipnknainaaDoorWn
import Derived.Test.YtleahipnknainaaDoorEng27
import Derived.Test.YtleahipnknainaaDoorProg
import Derived.KernelRfl
import Derived.Test.YtleahipnknainaaDoorCA
import Derived.Test.YtleahipnknainaaDoorCB
import Derived.Test.YtleahipnknainaaDoorIt
set_option linter.unusedVariables false
set_option linter.unusedSimpArgs false
namespace Go.Proofs.YtleahipnknainaaDoor
open Go.Eng

theorem cl120 : Callable Tryd.prog 120 := Callable_of Tryd.func120 (by kernel_rfl) (by kernel_rfl)
theorem cl63 : Callable Tryd.prog 63 := Callable_of Tryd.func63 (by kernel_rfl) (by kernel_rfl)
theorem cl71 : Callable Tryd.prog 71 := Callable_of Tryd.func71 (by kernel_rfl) (by kernel_rfl)
theorem cl74 : Callable Tryd.prog 74 := Callable_of Tryd.func74 (by kernel_rfl) (by kernel_rfl)
theorem cl96 : Callable Tryd.prog 96 := Callable_of Tryd.func96 (by kernel_rfl) (by kernel_rfl)

set_option maxHeartbeats 1000000 in
set_option maxRecDepth 4000 in
theorem c_decimal (n : Int) (h0 : 0 ≤ n) (h1 : n ≤ 9223372036854775807) : PCall Tryd.prog 96 [.c (.int .i64 n)] (· = [.c (.string (dec n))]) := by
  refine PCall_of (n := 5) Tryd.func96 rfl rfl (Nat.le_of_ble_eq_true rfl) fun C hdm hT0 => ?_
  have hT := hT0
  refine AC_seq fun K1 hK1 => ?_
  refine AC_region ?_
  refine AL_ev (Ev_assign) rfl ?_
  refine AL_nil ?_
  refine hK1 _ _ _ ?_
  refine AC_seq fun K2 hK2 => ?_
  refine AC_region ?_
  refine AL_ev (Ev_move) rfl ?_
  refine AL_fcall0 hT rfl cl120 (c_itoa n (by omega) (by omega)) rfl rfl ?_
  refine AL_ev (Ev_assign) rfl ?_
  refine AL_nil ?_
  refine hK2 _ _ _ ?_
  refine AC_ret ?_
  exact ret_ok hdm (.tmp rfl rfl .nil) (.cons .d .nil) rfl

set_option maxHeartbeats 1000000 in
set_option maxRecDepth 4000 in
theorem c_predOf (t : T) (hb : bulk t ≤ 1099511627776) : PCall Tryd.prog 63 [inj t] (· = [.c (.string (predS t))]) := by
  obtain ⟨k, s, m, ks⟩ := t
  obtain ⟨hs, hkl, hku⟩ := bulk_mk hb
  have hsz : s.size + (⟨#[47]⟩ : ByteArray).size ≤ 4611686018427387904 := by
    have : (⟨#[47]⟩ : ByteArray).size = 1 := rfl
    omega
  have hdz := dec_size (ks.length : Int) (by omega) (by omega)
  have hsz2 : (s ++ (⟨#[47]⟩ : ByteArray)).size + (dec ks.length).size ≤ 4611686018427387904 := by
    have : (⟨#[47]⟩ : ByteArray).size = 1 := rfl
    rw [ByteArray.size_append]
    omega
  refine PCall_of (n := 19) Tryd.func63 rfl rfl (Nat.le_of_ble_eq_true rfl) fun C hdm hT0 => ?_
  have hT := hT0
  refine AC_seq fun K1 hK1 => ?_
  refine AC_region ?_
  refine AL_box (Lay.st [.one, .one, .one, .one]) (nf rfl) rfl (by first | rfl | simp [Lay.len, Lay.lens]) _ rfl rfl ?_
  refine AL_ev (Ev_assign) rfl ?_
  refine AL_nil ?_
  refine hK1 _ _ _ ?_
  refine AC_seq fun K2 hK2 => ?_
  refine AC_seq fun K3 hK3 => ?_
  refine AC_region ?_
  first | refine AL_ev (Ev_fa_ptr rfl fa45_0 rfl rfl) rfl ?_ | refine AL_ev (Ev_fa_rp rfl fa45_0 rfl rfl) rfl ?_
  first | refine AL_ev (Ev_load_ptr rfl rfl rfl rfl rfl rfl ts3 ta3 rfl (fun _ => rfl)) rfl ?_ | refine AL_ev (Ev_load_rp rfl rfl rfl ts3 ta3 rfl (fun _ => rfl)) rfl ?_
  refine AL_ev (Ev_neq rfl rfl) rfl ?_
  refine AL_ev (Ev_move) rfl ?_
  refine AL_bool 6 rfl (fun hg1 => ?_) (fun hg1 => ?_)
  · skip
    refine AL_guard_t rfl rfl rfl ?_
    first | refine AL_ev (Ev_fa_ptr rfl fa45_0 rfl rfl) rfl ?_ | refine AL_ev (Ev_fa_rp rfl fa45_0 rfl rfl) rfl ?_
    refine AL_guard_t rfl rfl rfl ?_
    first | refine AL_ev (Ev_load_ptr rfl rfl rfl rfl rfl rfl ts3 ta3 rfl (fun _ => rfl)) rfl ?_ | refine AL_ev (Ev_load_rp rfl rfl rfl ts3 ta3 rfl (fun _ => rfl)) rfl ?_
    refine AL_guard_t rfl rfl rfl ?_
    refine AL_ev (Ev_neq rfl rfl) rfl ?_
    refine AL_ev (Ev_pick rfl) rfl ?_
    refine AL_nil ?_
    refine hK3 _ _ _ ?_
    refine AC_cond rfl (fun hc2 => ?_) (fun hc2 => ?_)
    · skip
      refine AC_seq fun K4 hK4 => ?_
      refine AC_region ?_
      refine AL_ev (Ev_assign) rfl ?_
      refine AL_nil ?_
      refine hK4 _ _ _ ?_
      refine AC_ret ?_
      refine ret_ok hdm (.tmp rfl rfl .nil) (.cons .d .nil) ?_
      try rw [predS]
      try rw [hI]
      try rw [hdr]
      try simp_all [List.length_pos_iff, T.kind, T.name, T.kids, slash]
      try omega
    · skip
      refine AC_skip ?_
      refine hK2 _ _ _ ?_
      refine AC_seq fun K5 hK5 => ?_
      refine AC_draw hT follows [0, 1, 2, 3, 4, 5, 6, 7, 8] (by kernel_rfl) ?_
      first | refine DT_ev rfl (EA_fa_ptr rfl fa45_1 rfl rfl) rfl ?_ | refine DT_ev rfl (EA_fa_rp rfl fa45_1 rfl rfl) rfl ?_
      first | refine DT_ev rfl (EA_load_ptr rfl rfl rfl rfl rfl rfl ts9 ta9 rfl (fun _ => rfl)) rfl ?_ | refine DT_ev rfl (EA_load_rp rfl rfl rfl ts9 ta9 rfl (fun _ => rfl)) rfl ?_
      refine DT_ev rfl (EA_sadd rfl rfl (by first | assumption | omega)) rfl ?_
      first | refine DT_ev rfl (EA_fa_ptr rfl fa45_3 rfl rfl) rfl ?_ | refine DT_ev rfl (EA_fa_rp rfl fa45_3 rfl rfl) rfl ?_
      first | refine DT_ev rfl (EA_load_ptr rfl rfl rfl rfl rfl rfl ts41 ta41 rfl (fun _ => rfl)) rfl ?_ | refine DT_ev rfl (EA_load_rp rfl rfl rfl ts41 ta41 rfl (fun _ => rfl)) rfl ?_
      first | refine DT_ev rfl (EA_len_injs te41 rfl) rfl ?_ | refine DT_ev rfl (EA_len_sl te41 rfl) rfl ?_ | refine DT_ev rfl (EA_len_ref te41 rfl) rfl ?_ | refine DT_ev rfl (EA_len_nil te41 rfl) rfl ?_
      refine DT_fcall0 rfl rfl cl96 (c_decimal ks.length (by omega) (by omega)) rfl rfl ?_
      refine DT_ev rfl (EA_sadd rfl rfl (by first | assumption | omega)) rfl ?_
      refine DT_ev rfl (EA_assign) rfl ?_
      refine DTi.nil ?_
      refine hK5 _ _ _ ?_
      refine AC_ret ?_
      refine ret_ok hdm (.tmp rfl rfl .nil) (.cons .d .nil) ?_
      try rw [predS]
      try rw [hI]
      try rw [hdr]
      try simp_all [List.length_pos_iff, T.kind, T.name, T.kids, slash]
      try omega
  · skip
    refine AL_guard_f rfl rfl rfl rfl ?_
    refine AL_guard_f rfl rfl rfl rfl ?_
    refine AL_guard_f rfl rfl rfl rfl ?_
    refine AL_ev (Ev_pick rfl) rfl ?_
    refine AL_nil ?_
    refine hK3 _ _ _ ?_
    first | refine AC_cond_f rfl ?_ | refine AC_cond_f (congrArg bl hc2) ?_
    refine AC_skip ?_
    refine hK2 _ _ _ ?_
    refine AC_seq fun K6 hK6 => ?_
    refine AC_draw hT follows [0, 1, 2, 3, 4, 5, 6, 7, 8] (by kernel_rfl) ?_
    first | refine DT_ev rfl (EA_fa_ptr rfl fa45_1 rfl rfl) rfl ?_ | refine DT_ev rfl (EA_fa_rp rfl fa45_1 rfl rfl) rfl ?_
    first | refine DT_ev rfl (EA_load_ptr rfl rfl rfl rfl rfl rfl ts9 ta9 rfl (fun _ => rfl)) rfl ?_ | refine DT_ev rfl (EA_load_rp rfl rfl rfl ts9 ta9 rfl (fun _ => rfl)) rfl ?_
    refine DT_ev rfl (EA_sadd rfl rfl (by first | assumption | omega)) rfl ?_
    first | refine DT_ev rfl (EA_fa_ptr rfl fa45_3 rfl rfl) rfl ?_ | refine DT_ev rfl (EA_fa_rp rfl fa45_3 rfl rfl) rfl ?_
    first | refine DT_ev rfl (EA_load_ptr rfl rfl rfl rfl rfl rfl ts41 ta41 rfl (fun _ => rfl)) rfl ?_ | refine DT_ev rfl (EA_load_rp rfl rfl rfl ts41 ta41 rfl (fun _ => rfl)) rfl ?_
    first | refine DT_ev rfl (EA_len_injs te41 rfl) rfl ?_ | refine DT_ev rfl (EA_len_sl te41 rfl) rfl ?_ | refine DT_ev rfl (EA_len_ref te41 rfl) rfl ?_ | refine DT_ev rfl (EA_len_nil te41 rfl) rfl ?_
    refine DT_fcall0 rfl rfl cl96 (c_decimal ks.length (by omega) (by omega)) rfl rfl ?_
    refine DT_ev rfl (EA_sadd rfl rfl (by first | assumption | omega)) rfl ?_
    refine DT_ev rfl (EA_assign) rfl ?_
    refine DTi.nil ?_
    refine hK6 _ _ _ ?_
    refine AC_ret ?_
    refine ret_ok hdm (.tmp rfl rfl .nil) (.cons .d .nil) ?_
    try rw [predS]
    try rw [hI]
    try rw [hdr]
    try simp_all [List.length_pos_iff, T.kind, T.name, T.kids, slash]
    try omega

set_option maxHeartbeats 1000000 in
set_option maxRecDepth 4000 in
theorem c_flatTerm (t : T) (hb : bulk t ≤ 1099511627776) : PCall Tryd.prog 88 [inj t] (· = [.c (.bool (flatT t))]) := by
  obtain ⟨k, s, m, ks⟩ := t
  refine PCall_of (n := 23) Tryd.func88 rfl rfl (Nat.le_of_ble_eq_true rfl) fun C hdm hT0 => ?_
  have hT := hT0
  refine AC_seq fun K1 hK1 => ?_
  refine AC_region ?_
  refine AL_box (Lay.st [.one, .one, .one, .one]) (nf rfl) rfl (by first | rfl | simp [Lay.len, Lay.lens]) _ rfl rfl ?_
  refine AL_ev (Ev_assign) rfl ?_
  refine AL_nil ?_
  refine hK1 _ _ _ ?_
  refine AC_seq fun K2 hK2 => ?_
  refine AC_seq fun K3 hK3 => ?_
  refine AC_region ?_
  first | refine AL_ev (Ev_fa_ptr rfl fa45_3 rfl rfl) rfl ?_ | refine AL_ev (Ev_fa_rp rfl fa45_3 rfl rfl) rfl ?_
  first | refine AL_ev (Ev_load_ptr rfl rfl rfl rfl rfl rfl ts41 ta41 rfl (fun _ => rfl)) rfl ?_ | refine AL_ev (Ev_load_rp rfl rfl rfl ts41 ta41 rfl (fun _ => rfl)) rfl ?_
  first | refine AL_lim (x := (Operand.tmp 6)) rfl fun hl1 => ?_ | refine AL_limB (x := (Operand.tmp 6)) rfl rfl (by first | rfl | (simp; done) | (simp; omega)) fun hl1 => ?_ | have hl1 := True.intro
  try simp only [injs_length, ints_length, strs_length, injCs_length, List.length_map] at hl1
  first | refine AL_ev (Ev_len_injs te41 rfl) rfl ?_ | refine AL_ev (Ev_len_sl te41 rfl) rfl ?_ | refine AL_ev (Ev_len_ref te41 rfl) rfl ?_ | refine AL_ev (Ev_len_nil te41 rfl) rfl ?_ | refine AL_ev (Ev_len_c te41 rfl) rfl ?_
  refine AL_ev (Ev_move) rfl ?_
  refine AL_nil ?_
  refine hK3 _ _ _ ?_
  refine AC_block ?_
  refine AC_loopS [6, 7] (Nat) (fun j => [(8, i64 j), (1, .d (.rp (Lay.st [.one, .one, .one, .one]) (inj (.mk k s m ks)) []))]) (fun j => []) (fun st => ks.length - st) (fun j => j ≤ ks.length ∧ anyS ks = anyS (ks.drop j)) (0) ?_ ?_ ?_
  · skip
    exact enterS [] rfl rfl BxTo_nil (SlTo_cons (by first | exact .rd .d | exact Vw_int (by first | rfl | assumption | omega | (simp; done) | (simp; omega)) | exact Vw_c (by first | rfl | (simp; done) | simp_all) | exact .any) (SlTo_cons (by first | exact .rd (.ptr (srcFree rfl) rfl rfl rfl .d) | exact .rd .d) (SlTo_cons (by first | exact .rd .d | exact .any) (SlTo_cons (by first | exact .rd .d | exact .any) SlTo_nil))))
  · skip
    exact ⟨Nat.zero_le _, by simp⟩
  rintro j ⟨hj, hI⟩
  show AC _ _ _ _ _ (FS [6, 7] _ [(8, i64 j), (1, .d (.rp (Lay.st [.one, .one, .one, .one]) (inj (.mk k s m ks)) []))]) []
  refine AC_seq fun K4 hK4 => ?_
  refine AC_region ?_
  refine AL_ev (Ev_lss rfl rfl) rfl ?_
  refine AL_nil ?_
  refine hK4 _ _ _ ?_
  refine AC_seq fun K5 hK5 => ?_
  refine AC_cond rfl (fun hc1 => ?_) (fun hc1 => ?_)
  · skip
    have hlt : j < ks.length := by simpa using hc1
    obtain ⟨u, hu⟩ : ∃ x, ks[j]? = some x := ⟨_, List.getElem?_eq_getElem hlt⟩
    have hu2 := injs_get hu
    have hdr := drop_get hu
    obtain ⟨uk, us, um, uks⟩ := u
    refine AC_skip ?_
    refine hK5 _ _ _ ?_
    refine AC_seq fun K6 hK6 => ?_
    refine AC_block ?_
    refine AC_seq fun K7 hK7 => ?_
    refine AC_region ?_
    first | refine AL_ev (Ev_ix_sl rfl rfl te41 ts45 (by omega) (by assumption)) rfl ?_ | refine AL_ev (Ev_ix_ref rfl rfl te41 ts45 (by omega) (by first | omega | (simp; omega))) rfl ?_
    first | refine AL_ev (Ev_load_ptr rfl rfl rfl rfl rfl rfl ts45 ta45 (by first | rfl | simp) (by intro h; cases h)) rfl ?_ | refine AL_ev (Ev_load_rp rfl rfl rfl ts45 ta45 (by first | rfl | simp) (by intro h; cases h)) rfl ?_
    refine AL_alloc zo45 _ rfl rfl ?_
    first | refine AL_store rfl (nf rfl) rfl rfl rfl rfl rfl rfl (by first | rfl | simp [Lay.len, Lay.lens]) ts45 rfl rfl ?_ | refine AL_store rfl (nf rfl) rfl rfl rfl hes rfl rfl (by first | rfl | simp [Lay.len, Lay.lens]) ts45 rfl rfl ?_
    refine AL_nil ?_
    refine hK7 _ _ _ ?_
    refine AC_seq fun K8 hK8 => ?_
    refine AC_region ?_
    first | refine AL_ev (Ev_fa_ptr rfl fa45_0 rfl rfl) rfl ?_ | refine AL_ev (Ev_fa_rp rfl fa45_0 rfl rfl) rfl ?_
    first | refine AL_ev (Ev_load_ptr rfl rfl rfl rfl rfl rfl ts3 ta3 rfl (fun _ => rfl)) rfl ?_ | refine AL_ev (Ev_load_rp rfl rfl rfl ts3 ta3 rfl (fun _ => rfl)) rfl ?_
    refine AL_ev (Ev_eql rfl rfl) rfl ?_
    refine AL_nil ?_
    refine hK8 _ _ _ ?_
    refine AC_cond rfl (fun hc2 => ?_) (fun hc2 => ?_)
    · skip
      refine AC_seq fun K9 hK9 => ?_
      refine AC_region ?_
      refine AL_ev (Ev_assign) rfl ?_
      refine AL_nil ?_
      refine hK9 _ _ _ ?_
      refine AC_ret ?_
      refine ret_ok hdm (.tmp rfl rfl .nil) (.cons .d .nil) ?_
      have hpn := predS_ne (.mk k s m ks)
      try rw [flatT]
      try rw [hI]
      try rw [hdr]
      try simp_all [List.length_pos_iff, anyS, T.kind, T.kids, predS_ne]
      try omega
    · skip
      refine AC_skip ?_
      refine hK6 _ _ _ ?_
      refine AC_region ?_
      first | refine AL_ev (Ev_add rfl rfl _ (wrap_id (by first | omega | (simp; omega)) (by first | omega | (simp; omega)))) rfl ?_ | refine AL_ev (Ev_add rfl rfl _ rfl) rfl ?_
      refine AL_ev (Ev_move) rfl ?_
      refine AL_nil ?_
      refine closeS (j + 1) [] rfl rfl (by show ks.length - (j + 1) < ks.length - j; omega) ⟨hlt, ?_⟩ BxTo_nil (SlTo_cons (by first | exact .rd .d | exact Vw_int (by first | rfl | assumption | omega | (simp; done) | (simp; omega)) | exact Vw_c (by first | rfl | (simp; done) | simp_all) | exact .any) (SlTo_cons (by first | exact .rd (.ptr (srcFree rfl) rfl rfl rfl .d) | exact .rd .d) (SlTo_cons (by first | exact .rd .d | exact .any) (SlTo_cons (by first | exact .rd .d | exact .any) SlTo_nil))))
      rw [hI]
      try rw [hdr]
      try simp_all [anyS, T.kind]
      try omega
  · skip
    have hj2 : j = ks.length := by
      have : ¬ j < ks.length := by simpa using hc1
      omega
    subst hj2
    rw [List.drop_length] at hI
    refine AC_exit ?_
    refine hK2 _ _ _ ?_
    refine AC_seq fun K10 hK10 => ?_
    refine AC_region ?_
    first | refine AL_ev (Ev_load_ptr rfl rfl rfl rfl rfl rfl ts45 ta45 (by first | rfl | simp) (by intro h; cases h)) rfl ?_ | refine AL_ev (Ev_load_rp rfl rfl rfl ts45 ta45 (by first | rfl | simp) (by intro h; cases h)) rfl ?_
    refine AL_fcall0 hT rfl cl63 (c_predOf _ hb) rfl rfl ?_
    refine AL_ev (Ev_sneq rfl rfl) rfl ?_
    refine AL_ev (Ev_move) rfl ?_
    refine AL_bool 19 rfl (fun hg3 => ?_) (fun hg3 => ?_)
    · skip
      refine AL_guard_t rfl rfl rfl ?_
      first | refine AL_ev (Ev_load_ptr rfl rfl rfl rfl rfl rfl ts45 ta45 (by first | rfl | simp) (by intro h; cases h)) rfl ?_ | refine AL_ev (Ev_load_rp rfl rfl rfl ts45 ta45 (by first | rfl | simp) (by intro h; cases h)) rfl ?_
      refine AL_guard_t rfl rfl rfl ?_
      refine AL_fcall0 hT rfl cl71 (c_termOk _ hb) rfl rfl ?_
      refine AL_ev (Ev_pick rfl) rfl ?_
      refine AL_ev (Ev_assign) rfl ?_
      refine AL_nil ?_
      refine hK10 _ _ _ ?_
      refine AC_ret ?_
      refine ret_ok hdm (.tmp rfl rfl .nil) (.cons .d .nil) ?_
      have hpn := predS_ne (.mk k s m ks)
      try rw [flatT]
      try rw [hI]
      try rw [hdr]
      try simp_all [List.length_pos_iff, anyS, T.kind, T.kids, predS_ne]
      try omega
    · skip
      refine AL_guard_f rfl rfl rfl rfl ?_
      refine AL_guard_f rfl rfl rfl rfl ?_
      refine AL_ev (Ev_pick rfl) rfl ?_
      refine AL_ev (Ev_assign) rfl ?_
      refine AL_nil ?_
      refine hK10 _ _ _ ?_
      refine AC_ret ?_
      refine ret_ok hdm (.tmp rfl rfl .nil) (.cons .d .nil) ?_
      have hpn := predS_ne (.mk k s m ks)
      try rw [flatT]
      try rw [hI]
      try rw [hdr]
      try simp_all [List.length_pos_iff, anyS, T.kind, T.kids, predS_ne]
      try omega

set_option maxHeartbeats 1000000 in
set_option maxRecDepth 4000 in
theorem c_specFlatTerm (t : T) (hb : bulk t ≤ 1099511627776) : PCall Tryd.prog 113 [inj t] (· = [.c (.bool (flatT t))]) := by
  obtain ⟨k, s, m, ks⟩ := t
  refine PCall_of (n := 30) Tryd.func113 rfl rfl (Nat.le_of_ble_eq_true rfl) fun C hdm hT0 => ?_
  have hT := hT0
  refine AC_seq fun K1 hK1 => ?_
  refine AC_region ?_
  refine AL_box (Lay.st [.one, .one, .one, .one]) (nf rfl) rfl (by first | rfl | simp [Lay.len, Lay.lens]) _ rfl rfl ?_
  refine AL_ev (Ev_assign) rfl ?_
  refine AL_nil ?_
  refine hK1 _ _ _ ?_
  refine AC_seq fun K2 hK2 => ?_
  refine AC_seq fun K3 hK3 => ?_
  refine AC_region ?_
  first | refine AL_ev (Ev_fa_ptr rfl fa45_0 rfl rfl) rfl ?_ | refine AL_ev (Ev_fa_rp rfl fa45_0 rfl rfl) rfl ?_
  first | refine AL_ev (Ev_load_ptr rfl rfl rfl rfl rfl rfl ts3 ta3 rfl (fun _ => rfl)) rfl ?_ | refine AL_ev (Ev_load_rp rfl rfl rfl ts3 ta3 rfl (fun _ => rfl)) rfl ?_
  refine AL_ev (Ev_eql rfl rfl) rfl ?_
  refine AL_nil ?_
  refine hK3 _ _ _ ?_
  refine AC_cond rfl (fun hc1 => ?_) (fun hc1 => ?_)
  · skip
    refine AC_seq fun K4 hK4 => ?_
    refine AC_region ?_
    first | refine AL_ev (Ev_load_ptr rfl rfl rfl rfl rfl rfl ts45 ta45 (by first | rfl | simp) (by intro h; cases h)) rfl ?_ | refine AL_ev (Ev_load_rp rfl rfl rfl ts45 ta45 (by first | rfl | simp) (by intro h; cases h)) rfl ?_
    refine AL_fcall0 hT rfl cl74 (c_specTermOk _ hb) rfl rfl ?_
    refine AL_ev (Ev_assign) rfl ?_
    refine AL_nil ?_
    refine hK4 _ _ _ ?_
    refine AC_ret ?_
    refine ret_ok hdm (.tmp rfl rfl .nil) (.cons .d .nil) ?_
    rw [← flatS_eq]
    try rw [flatS]
    try rw [hI]
    try rw [hdr]
    try simp_all [List.length_pos_iff, anyS, T.kind, T.kids]
    try omega
  · skip
    refine AC_skip ?_
    refine hK2 _ _ _ ?_
    refine AC_seq fun K5 hK5 => ?_
    refine AC_seq fun K6 hK6 => ?_
    refine AC_region ?_
    refine AL_ev (Ev_assign) rfl ?_
    refine AL_nil ?_
    refine hK6 _ _ _ ?_
    refine AC_block ?_
    refine AC_loopS [] (Nat) (fun j => [(3, i64 j), (1, .d (.rp (Lay.st [.one, .one, .one, .one]) (inj (.mk k s m ks)) []))]) (fun j => []) (fun st => ks.length - st) (fun j => j ≤ ks.length ∧ anyS ks = anyS (ks.drop j)) (0) ?_ ?_ ?_
    · skip
      exact enterS [] rfl rfl BxTo_nil (SlTo_cons (by first | exact .rd .d | exact Vw_int (by first | rfl | assumption | omega | (simp; done) | (simp; omega)) | exact Vw_c (by first | rfl | (simp; done) | simp_all) | exact .any) (SlTo_cons (by first | exact .rd (.ptr (srcFree rfl) rfl rfl rfl .d) | exact .rd .d) SlTo_nil))
    · skip
      exact ⟨Nat.zero_le _, by simp⟩
    rintro j ⟨hj, hI⟩
    show AC _ _ _ _ _ (FS [] _ [(3, i64 j), (1, .d (.rp (Lay.st [.one, .one, .one, .one]) (inj (.mk k s m ks)) []))]) []
    refine AC_seq fun K7 hK7 => ?_
    refine AC_seq fun K8 hK8 => ?_
    refine AC_region ?_
    refine AL_ev (Ev_move) rfl ?_
    first | refine AL_ev (Ev_fa_ptr rfl fa45_3 rfl rfl) rfl ?_ | refine AL_ev (Ev_fa_rp rfl fa45_3 rfl rfl) rfl ?_
    first | refine AL_ev (Ev_load_ptr rfl rfl rfl rfl rfl rfl ts41 ta41 rfl (fun _ => rfl)) rfl ?_ | refine AL_ev (Ev_load_rp rfl rfl rfl ts41 ta41 rfl (fun _ => rfl)) rfl ?_
    first | refine AL_lim (x := (Operand.tmp 11)) rfl fun hl1 => ?_ | refine AL_limB (x := (Operand.tmp 11)) rfl rfl (by first | rfl | (simp; done) | (simp; omega)) fun hl1 => ?_ | have hl1 := True.intro
    try simp only [injs_length, ints_length, strs_length, injCs_length, List.length_map] at hl1
    first | refine AL_ev (Ev_len_injs te41 rfl) rfl ?_ | refine AL_ev (Ev_len_sl te41 rfl) rfl ?_ | refine AL_ev (Ev_len_ref te41 rfl) rfl ?_ | refine AL_ev (Ev_len_nil te41 rfl) rfl ?_ | refine AL_ev (Ev_len_c te41 rfl) rfl ?_
    refine AL_ev (Ev_lss rfl rfl) rfl ?_
    refine AL_nil ?_
    refine hK8 _ _ _ ?_
    refine AC_cond rfl (fun hc2 => ?_) (fun hc2 => ?_)
    · skip
      have hlt : j < ks.length := by simpa using hc2
      obtain ⟨u, hu⟩ : ∃ x, ks[j]? = some x := ⟨_, List.getElem?_eq_getElem hlt⟩
      have hu2 := injs_get hu
      have hdr := drop_get hu
      obtain ⟨uk, us, um, uks⟩ := u
      refine AC_skip ?_
      refine hK7 _ _ _ ?_
      refine AC_seq fun K9 hK9 => ?_
      refine AC_block ?_
      refine AC_seq fun K10 hK10 => ?_
      refine AC_region ?_
      first | refine AL_ev (Ev_fa_ptr rfl fa45_3 rfl rfl) rfl ?_ | refine AL_ev (Ev_fa_rp rfl fa45_3 rfl rfl) rfl ?_
      first | refine AL_ev (Ev_load_ptr rfl rfl rfl rfl rfl rfl ts41 ta41 rfl (fun _ => rfl)) rfl ?_ | refine AL_ev (Ev_load_rp rfl rfl rfl ts41 ta41 rfl (fun _ => rfl)) rfl ?_
      refine AL_ev (Ev_move) rfl ?_
      first | refine AL_ev (Ev_ix_sl rfl rfl te41 ts45 (by omega) (by assumption)) rfl ?_ | refine AL_ev (Ev_ix_ref rfl rfl te41 ts45 (by omega) (by first | omega | (simp; omega))) rfl ?_
      first | refine AL_ev (Ev_fa_ptr rfl fa45_0 rfl rfl) rfl ?_ | refine AL_ev (Ev_fa_rp rfl fa45_0 rfl rfl) rfl ?_
      first | refine AL_ev (Ev_load_ptr rfl rfl rfl rfl rfl rfl ts3 ta3 rfl (fun _ => rfl)) rfl ?_ | refine AL_ev (Ev_load_rp rfl rfl rfl ts3 ta3 rfl (fun _ => rfl)) rfl ?_
      refine AL_ev (Ev_eql rfl rfl) rfl ?_
      refine AL_nil ?_
      refine hK10 _ _ _ ?_
      refine AC_cond rfl (fun hc3 => ?_) (fun hc3 => ?_)
      · skip
        refine AC_seq fun K11 hK11 => ?_
        refine AC_region ?_
        refine AL_ev (Ev_assign) rfl ?_
        refine AL_nil ?_
        refine hK11 _ _ _ ?_
        refine AC_ret ?_
        refine ret_ok hdm (.tmp rfl rfl .nil) (.cons .d .nil) ?_
        rw [← flatS_eq]
        try rw [flatS]
        try rw [hI]
        try rw [hdr]
        try simp_all [List.length_pos_iff, anyS, T.kind, T.kids]
        try omega
      · skip
        refine AC_skip ?_
        refine hK9 _ _ _ ?_
        refine AC_region ?_
        refine AL_ev (Ev_move) rfl ?_
        first | refine AL_ev (Ev_add rfl rfl _ (wrap_id (by first | omega | (simp; omega)) (by first | omega | (simp; omega)))) rfl ?_ | refine AL_ev (Ev_add rfl rfl _ rfl) rfl ?_
        refine AL_ev (Ev_assign) rfl ?_
        refine AL_nil ?_
        refine closeS (j + 1) [] rfl rfl (by show ks.length - (j + 1) < ks.length - j; omega) ⟨hlt, ?_⟩ BxTo_nil (SlTo_cons (by first | exact .rd .d | exact Vw_int (by first | rfl | assumption | omega | (simp; done) | (simp; omega)) | exact Vw_c (by first | rfl | (simp; done) | simp_all) | exact .any) (SlTo_cons (by first | exact .rd (.ptr (srcFree rfl) rfl rfl rfl .d) | exact .rd .d) SlTo_nil))
        rw [hI]
        try rw [hdr]
        try simp_all [anyS, T.kind]
        try omega
    · skip
      have hj2 : j = ks.length := by
        have : ¬ j < ks.length := by simpa using hc2
        omega
      subst hj2
      rw [List.drop_length] at hI
      refine AC_exit ?_
      refine hK5 _ _ _ ?_
      refine AC_seq fun K12 hK12 => ?_
      refine AC_region ?_
      first | refine AL_ev (Ev_fa_ptr rfl fa45_0 rfl rfl) rfl ?_ | refine AL_ev (Ev_fa_rp rfl fa45_0 rfl rfl) rfl ?_
      first | refine AL_ev (Ev_load_ptr rfl rfl rfl rfl rfl rfl ts3 ta3 rfl (fun _ => rfl)) rfl ?_ | refine AL_ev (Ev_load_rp rfl rfl rfl ts3 ta3 rfl (fun _ => rfl)) rfl ?_
      refine AL_ev (Ev_eql rfl rfl) rfl ?_
      refine AL_ev (Ev_move) rfl ?_
      refine AL_bool 26 rfl (fun hg4 => ?_) (fun hg4 => ?_)
      · skip
        refine AL_guard_t rfl rfl rfl ?_
        first | refine AL_ev (Ev_load_ptr rfl rfl rfl rfl rfl rfl ts45 ta45 (by first | rfl | simp) (by intro h; cases h)) rfl ?_ | refine AL_ev (Ev_load_rp rfl rfl rfl ts45 ta45 (by first | rfl | simp) (by intro h; cases h)) rfl ?_
        refine AL_guard_t rfl rfl rfl ?_
        refine AL_fcall0 hT rfl cl74 (c_specTermOk _ hb) rfl rfl ?_
        refine AL_ev (Ev_pick rfl) rfl ?_
        refine AL_ev (Ev_assign) rfl ?_
        refine AL_nil ?_
        refine hK12 _ _ _ ?_
        refine AC_ret ?_
        refine ret_ok hdm (.tmp rfl rfl .nil) (.cons .d .nil) ?_
        rw [← flatS_eq]
        try rw [flatS]
        try rw [hI]
        try rw [hdr]
        try simp_all [List.length_pos_iff, anyS, T.kind, T.kids]
        try omega
      · skip
        refine AL_guard_f rfl rfl rfl rfl ?_
        refine AL_guard_f rfl rfl rfl rfl ?_
        refine AL_ev (Ev_pick rfl) rfl ?_
        refine AL_ev (Ev_assign) rfl ?_
        refine AL_nil ?_
        refine hK12 _ _ _ ?_
        refine AC_ret ?_
        refine ret_ok hdm (.tmp rfl rfl .nil) (.cons .d .nil) ?_
        rw [← flatS_eq]
        try rw [flatS]
        try rw [hI]
        try rw [hdr]
        try simp_all [List.length_pos_iff, anyS, T.kind, T.kids]
        try omega

end Go.Proofs.YtleahipnknainaaDoor
