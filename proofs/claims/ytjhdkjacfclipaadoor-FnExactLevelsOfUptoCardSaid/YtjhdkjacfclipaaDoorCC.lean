/- Contracts of functions. -/
import Derived.Test.YtjhdkjacfclipaaDoorMt
import Derived.Test.YtjhdkjacfclipaaDoorOk
import Derived.Test.YtjhdkjacfclipaaDoorWn
import Derived.Test.YtjhdkjacfclipaaDoorEng27
import Derived.Test.YtjhdkjacfclipaaDoorProg
import Derived.KernelRfl
import Derived.Test.YtjhdkjacfclipaaDoorCA
import Derived.Test.YtjhdkjacfclipaaDoorIt
set_option linter.unusedVariables false
set_option linter.unusedSimpArgs false
namespace Go.Proofs.YtjhdkjacfclipaaDoor
open Go.Eng

theorem cl40 : Callable Tryd.prog 40 := Callable_of Tryd.func40 (by kernel_rfl) (by kernel_rfl)
theorem cl57 : Callable Tryd.prog 57 := Callable_of Tryd.func57 (by kernel_rfl) (by kernel_rfl)

set_option maxHeartbeats 1000000 in
set_option maxRecDepth 4000 in
theorem c_decimal (n : Int) (h0 : 0 ≤ n) (h1 : n ≤ 9223372036854775807) : PCall Tryd.prog 40 [.c (.int .i64 n)] (· = [.c (.string (dec n))]) := by
  refine PCall_of (n := 5) Tryd.func40 rfl rfl (Nat.le_of_ble_eq_true rfl) fun C hdm hT0 => ?_
  have hT := hT0
  refine AC_seq fun K1 hK1 => ?_
  refine AC_region ?_
  refine AL_ev (Ev_assign) rfl ?_
  refine AL_nil ?_
  refine hK1 _ _ _ ?_
  refine AC_seq fun K2 hK2 => ?_
  refine AC_region ?_
  refine AL_ev (Ev_move) rfl ?_
  refine AL_fcall0 hT rfl cl57 (c_itoa n (by omega) (by omega)) rfl rfl ?_
  refine AL_ev (Ev_assign) rfl ?_
  refine AL_nil ?_
  refine hK2 _ _ _ ?_
  refine AC_ret ?_
  exact ret_ok hdm (.tmp rfl rfl .nil) (.cons .d .nil) rfl

set_option maxHeartbeats 1000000 in
set_option maxRecDepth 4000 in
theorem c_predOf (t : T) (hb : bulk t ≤ 1099511627776) : PCall Tryd.prog 23 [inj t] (· = [.c (.string (predS t))]) := by
  obtain ⟨k, s, m, ks⟩ := t
  obtain ⟨hs, hkl, hku⟩ := bulk_mk hb
  have hsz : s.size + (⟨#[47]⟩ : ByteArray).size ≤ 4611686018427387904 := by
    have : (⟨#[47]⟩ : ByteArray).size = 1 := rfl
    omega
  have hdz := dec_size (ks.length : Int) (by omega) (by omega)
  have hsz2 : (s ++ (⟨#[47]⟩ : ByteArray)).size + (dec ks.length).size ≤ 4611686018427387904 := by
    have : (⟨#[47]⟩ : ByteArray).size = 1 := rfl
    rw [ByteArray.size_append]
    omega
  refine PCall_of (n := 19) Tryd.func23 rfl rfl (Nat.le_of_ble_eq_true rfl) fun C hdm hT0 => ?_
  have hT := hT0
  refine AC_seq fun K1 hK1 => ?_
  refine AC_region ?_
  refine AL_box (Lay.st [.one, .one, .one, .one]) (nf rfl) rfl (by first | rfl | simp [Lay.len, Lay.lens]) _ rfl rfl ?_
  refine AL_ev (Ev_assign) rfl ?_
  refine AL_nil ?_
  refine hK1 _ _ _ ?_
  refine AC_seq fun K2 hK2 => ?_
  refine AC_seq fun K3 hK3 => ?_
  refine AC_region ?_
  first | refine AL_ev (Ev_fa_ptr rfl fa48_0 rfl rfl) rfl ?_ | refine AL_ev (Ev_fa_rp rfl fa48_0 rfl rfl) rfl ?_
  first | refine AL_ev (Ev_load_ptr rfl rfl rfl rfl rfl rfl ts3 ta3 rfl (fun _ => rfl)) rfl ?_ | refine AL_ev (Ev_load_rp rfl rfl rfl ts3 ta3 rfl (fun _ => rfl)) rfl ?_
  refine AL_ev (Ev_neq rfl rfl) rfl ?_
  refine AL_ev (Ev_move) rfl ?_
  refine AL_bool 6 rfl (fun hg1 => ?_) (fun hg1 => ?_)
  · skip
    refine AL_guard_t rfl rfl rfl ?_
    first | refine AL_ev (Ev_fa_ptr rfl fa48_0 rfl rfl) rfl ?_ | refine AL_ev (Ev_fa_rp rfl fa48_0 rfl rfl) rfl ?_
    refine AL_guard_t rfl rfl rfl ?_
    first | refine AL_ev (Ev_load_ptr rfl rfl rfl rfl rfl rfl ts3 ta3 rfl (fun _ => rfl)) rfl ?_ | refine AL_ev (Ev_load_rp rfl rfl rfl ts3 ta3 rfl (fun _ => rfl)) rfl ?_
    refine AL_guard_t rfl rfl rfl ?_
    refine AL_ev (Ev_neq rfl rfl) rfl ?_
    refine AL_ev (Ev_pick rfl) rfl ?_
    refine AL_nil ?_
    refine hK3 _ _ _ ?_
    refine AC_cond rfl (fun hc2 => ?_) (fun hc2 => ?_)
    · skip
      refine AC_seq fun K4 hK4 => ?_
      refine AC_region ?_
      refine AL_ev (Ev_assign) rfl ?_
      refine AL_nil ?_
      refine hK4 _ _ _ ?_
      refine AC_ret ?_
      refine ret_ok hdm (.tmp rfl rfl .nil) (.cons .d .nil) ?_
      try rw [predS]
      try rw [hI]
      try rw [hdr]
      try simp_all [List.length_pos_iff, T.kind, T.name, T.kids, slash]
      try omega
    · skip
      refine AC_skip ?_
      refine hK2 _ _ _ ?_
      refine AC_seq fun K5 hK5 => ?_
      refine AC_draw hT follows [0, 1, 2, 3, 4, 5, 6, 7, 8] (by kernel_rfl) ?_
      first | refine DT_ev rfl (EA_fa_ptr rfl fa48_1 rfl rfl) rfl ?_ | refine DT_ev rfl (EA_fa_rp rfl fa48_1 rfl rfl) rfl ?_
      first | refine DT_ev rfl (EA_load_ptr rfl rfl rfl rfl rfl rfl ts9 ta9 rfl (fun _ => rfl)) rfl ?_ | refine DT_ev rfl (EA_load_rp rfl rfl rfl ts9 ta9 rfl (fun _ => rfl)) rfl ?_
      refine DT_ev rfl (EA_sadd rfl rfl (by first | assumption | omega)) rfl ?_
      first | refine DT_ev rfl (EA_fa_ptr rfl fa48_3 rfl rfl) rfl ?_ | refine DT_ev rfl (EA_fa_rp rfl fa48_3 rfl rfl) rfl ?_
      first | refine DT_ev rfl (EA_load_ptr rfl rfl rfl rfl rfl rfl ts46 ta46 rfl (fun _ => rfl)) rfl ?_ | refine DT_ev rfl (EA_load_rp rfl rfl rfl ts46 ta46 rfl (fun _ => rfl)) rfl ?_
      first | refine DT_ev rfl (EA_len_injs te46 rfl) rfl ?_ | refine DT_ev rfl (EA_len_sl te46 rfl) rfl ?_ | refine DT_ev rfl (EA_len_ref te46 rfl) rfl ?_ | refine DT_ev rfl (EA_len_nil te46 rfl) rfl ?_
      refine DT_fcall0 rfl rfl cl40 (c_decimal ks.length (by omega) (by omega)) rfl rfl ?_
      refine DT_ev rfl (EA_sadd rfl rfl (by first | assumption | omega)) rfl ?_
      refine DT_ev rfl (EA_assign) rfl ?_
      refine DTi.nil ?_
      refine hK5 _ _ _ ?_
      refine AC_ret ?_
      refine ret_ok hdm (.tmp rfl rfl .nil) (.cons .d .nil) ?_
      try rw [predS]
      try rw [hI]
      try rw [hdr]
      try simp_all [List.length_pos_iff, T.kind, T.name, T.kids, slash]
      try omega
  · skip
    refine AL_guard_f rfl rfl rfl rfl ?_
    refine AL_guard_f rfl rfl rfl rfl ?_
    refine AL_guard_f rfl rfl rfl rfl ?_
    refine AL_ev (Ev_pick rfl) rfl ?_
    refine AL_nil ?_
    refine hK3 _ _ _ ?_
    first | refine AC_cond_f rfl ?_ | refine AC_cond_f (congrArg bl hc2) ?_
    refine AC_skip ?_
    refine hK2 _ _ _ ?_
    refine AC_seq fun K6 hK6 => ?_
    refine AC_draw hT follows [0, 1, 2, 3, 4, 5, 6, 7, 8] (by kernel_rfl) ?_
    first | refine DT_ev rfl (EA_fa_ptr rfl fa48_1 rfl rfl) rfl ?_ | refine DT_ev rfl (EA_fa_rp rfl fa48_1 rfl rfl) rfl ?_
    first | refine DT_ev rfl (EA_load_ptr rfl rfl rfl rfl rfl rfl ts9 ta9 rfl (fun _ => rfl)) rfl ?_ | refine DT_ev rfl (EA_load_rp rfl rfl rfl ts9 ta9 rfl (fun _ => rfl)) rfl ?_
    refine DT_ev rfl (EA_sadd rfl rfl (by first | assumption | omega)) rfl ?_
    first | refine DT_ev rfl (EA_fa_ptr rfl fa48_3 rfl rfl) rfl ?_ | refine DT_ev rfl (EA_fa_rp rfl fa48_3 rfl rfl) rfl ?_
    first | refine DT_ev rfl (EA_load_ptr rfl rfl rfl rfl rfl rfl ts46 ta46 rfl (fun _ => rfl)) rfl ?_ | refine DT_ev rfl (EA_load_rp rfl rfl rfl ts46 ta46 rfl (fun _ => rfl)) rfl ?_
    first | refine DT_ev rfl (EA_len_injs te46 rfl) rfl ?_ | refine DT_ev rfl (EA_len_sl te46 rfl) rfl ?_ | refine DT_ev rfl (EA_len_ref te46 rfl) rfl ?_ | refine DT_ev rfl (EA_len_nil te46 rfl) rfl ?_
    refine DT_fcall0 rfl rfl cl40 (c_decimal ks.length (by omega) (by omega)) rfl rfl ?_
    refine DT_ev rfl (EA_sadd rfl rfl (by first | assumption | omega)) rfl ?_
    refine DT_ev rfl (EA_assign) rfl ?_
    refine DTi.nil ?_
    refine hK6 _ _ _ ?_
    refine AC_ret ?_
    refine ret_ok hdm (.tmp rfl rfl .nil) (.cons .d .nil) ?_
    try rw [predS]
    try rw [hI]
    try rw [hdr]
    try simp_all [List.length_pos_iff, T.kind, T.name, T.kids, slash]
    try omega

end Go.Proofs.YtjhdkjacfclipaaDoor
