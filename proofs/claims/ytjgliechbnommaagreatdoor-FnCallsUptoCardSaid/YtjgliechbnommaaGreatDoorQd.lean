/- The engine and the contracts of the functions that the claim reaches (texts packed, part 4). -/
import Derived.Test.YtjgliechbnommaaGreatDoorQc
set_option linter.unusedVariables false
set_option linter.unusedSimpArgs false
namespace Go.Proofs.YtjgliechbnommaaGreatDoor
open Go.Eng
theorem cl105 : Callable Tryz.prog 105 := Callable_of Tryz.func105 (by kernel_rfl) (by kernel_rfl)
theorem cl73 : Callable Tryz.prog 73 := Callable_of Tryz.func73 (by kernel_rfl) (by kernel_rfl)
set_option maxHeartbeats 1000000 in
set_option maxRecDepth 4000 in
theorem c_decimal (n : Int) (h0 : 0 ≤ n) (h1 : n ≤ 9223372036854775807) : PCall Tryz.prog 73 [.c (.int .i64 n)] (· = [.c (.string (dec n))]) := by
 refine PCall_of (n := 5) Tryz.func73 rfl rfl (Nat.le_of_ble_eq_true rfl) fun C hdm hT0 => ?_
 have hT := hT0
 refine AC_seq fun K1 hK1 => ?_
 refine AC_region ?_
 refine AL_ev (Ev_assign) rfl ?_
 refine AL_nil ?_
 refine hK1 _ _ _ ?_
 refine AC_seq fun K2 hK2 => ?_
 refine AC_region ?_
 refine AL_ev (Ev_move) rfl ?_
 refine AL_fcall0 hT rfl cl105 (c_itoa n (by omega) (by omega)) rfl rfl ?_
 refine AL_ev (Ev_assign) rfl ?_
 refine AL_nil ?_
 refine hK2 _ _ _ ?_
 refine AC_ret ?_
 exact ret_ok hdm (.tmp rfl rfl .nil) (.cons .d .nil) rfl
set_option maxHeartbeats 1000000 in
set_option maxRecDepth 4000 in
theorem c_predOf (t : T) (hb : bulk t ≤ 1099511627776) : PCall Tryz.prog 44 [inj t] (· = [.c (.string (predS t))]) := by
 obtain ⟨k, s, m, ks⟩ := t
 obtain ⟨hs, hkl, hku⟩ := bulk_mk hb
 have hsz : s.size + (⟨#[47]⟩ : ByteArray).size ≤ 4611686018427387904 := by
  have : (⟨#[47]⟩ : ByteArray).size = 1 := rfl
  omega
 have hdz := dec_size (ks.length : Int) (by omega) (by omega)
 have hsz2 : (s ++ (⟨#[47]⟩ : ByteArray)).size + (dec ks.length).size ≤ 4611686018427387904 := by
  have : (⟨#[47]⟩ : ByteArray).size = 1 := rfl
  rw [ByteArray.size_append]
  omega
 refine PCall_of (n := 19) Tryz.func44 rfl rfl (Nat.le_of_ble_eq_true rfl) fun C hdm hT0 => ?_
 have hT := hT0
 refine AC_seq fun K1 hK1 => ?_
 refine AC_region ?_
 refine AL_box (Lay.st [.one, .one, .one, .one]) (nf rfl) rfl (by rfl) _ rfl rfl ?_
 refine AL_ev (Ev_assign) rfl ?_
 refine AL_nil ?_
 refine hK1 _ _ _ ?_
 refine AC_seq fun K2 hK2 => ?_
 refine AC_seq fun K3 hK3 => ?_
 refine AC_region ?_
 refine AL_ev (Ev_fa_ptr rfl fa41_0 rfl rfl) rfl ?_
 refine AL_ev (Ev_load_ptr rfl rfl rfl rfl rfl rfl ts3 ta3 rfl (fun _ => rfl)) rfl ?_
 refine AL_ev (Ev_neq rfl rfl) rfl ?_
 refine AL_ev (Ev_move) rfl ?_
 refine AL_bool 6 rfl (fun hg1 => ?_) (fun hg1 => ?_)
 ·refine AL_guard_t rfl rfl rfl ?_
  refine AL_ev (Ev_fa_ptr rfl fa41_0 rfl rfl) rfl ?_
  refine AL_guard_t rfl rfl rfl ?_
  refine AL_ev (Ev_load_ptr rfl rfl rfl rfl rfl rfl ts3 ta3 rfl (fun _ => rfl)) rfl ?_
  refine AL_guard_t rfl rfl rfl ?_
  refine AL_ev (Ev_neq rfl rfl) rfl ?_
  refine AL_ev (Ev_pick rfl) rfl ?_
  refine AL_nil ?_
  refine hK3 _ _ _ ?_
  refine AC_cond rfl (fun hc2 => ?_) (fun hc2 => ?_)
  ·refine AC_seq fun K4 hK4 => ?_
   refine AC_region ?_
   refine AL_ev (Ev_assign) rfl ?_
   refine AL_nil ?_
   refine hK4 _ _ _ ?_
   refine AC_ret ?_
   refine ret_ok hdm (.tmp rfl rfl .nil) (.cons .d .nil) ?_
   try rw [predS]
   try simp_all [List.length_pos_iff, T.kind, T.name, T.kids, slash]
  ·refine AC_skip ?_
   refine hK2 _ _ _ ?_
   refine AC_seq fun K5 hK5 => ?_
   refine AC_draw hT follows [0, 1, 2, 3, 4, 5, 6, 7, 8] (by kernel_rfl) ?_
   refine DT_ev rfl (EA_fa_ptr rfl fa41_1 rfl rfl) rfl ?_
   refine DT_ev rfl (EA_load_ptr rfl rfl rfl rfl rfl rfl ts9 ta9 rfl (fun _ => rfl)) rfl ?_
   refine DT_ev rfl (EA_sadd rfl rfl (by assumption)) rfl ?_
   refine DT_ev rfl (EA_fa_ptr rfl fa41_3 rfl rfl) rfl ?_
   refine DT_ev rfl (EA_load_ptr rfl rfl rfl rfl rfl rfl ts39 ta39 rfl (fun _ => rfl)) rfl ?_
   refine DT_ev rfl (EA_len_injs te39 rfl) rfl ?_
   refine DT_fcall0 rfl rfl cl73 (c_decimal ks.length (by omega) (by omega)) rfl rfl ?_
   refine DT_ev rfl (EA_sadd rfl rfl (by assumption)) rfl ?_
   refine DT_ev rfl (EA_assign) rfl ?_
   refine DTi.nil ?_
   refine hK5 _ _ _ ?_
   refine AC_ret ?_
   refine ret_ok hdm (.tmp rfl rfl .nil) (.cons .d .nil) ?_
   try rw [predS]
   try simp_all [List.length_pos_iff, T.kind, T.name, T.kids, slash]
 ·refine AL_guard_f rfl rfl rfl rfl ?_
  refine AL_guard_f rfl rfl rfl rfl ?_
  refine AL_guard_f rfl rfl rfl rfl ?_
  refine AL_ev (Ev_pick rfl) rfl ?_
  refine AL_nil ?_
  refine hK3 _ _ _ ?_
  refine AC_cond_f rfl ?_
  refine AC_skip ?_
  refine hK2 _ _ _ ?_
  refine AC_seq fun K6 hK6 => ?_
  refine AC_draw hT follows [0, 1, 2, 3, 4, 5, 6, 7, 8] (by kernel_rfl) ?_
  refine DT_ev rfl (EA_fa_ptr rfl fa41_1 rfl rfl) rfl ?_
  refine DT_ev rfl (EA_load_ptr rfl rfl rfl rfl rfl rfl ts9 ta9 rfl (fun _ => rfl)) rfl ?_
  refine DT_ev rfl (EA_sadd rfl rfl (by assumption)) rfl ?_
  refine DT_ev rfl (EA_fa_ptr rfl fa41_3 rfl rfl) rfl ?_
  refine DT_ev rfl (EA_load_ptr rfl rfl rfl rfl rfl rfl ts39 ta39 rfl (fun _ => rfl)) rfl ?_
  refine DT_ev rfl (EA_len_injs te39 rfl) rfl ?_
  refine DT_fcall0 rfl rfl cl73 (c_decimal ks.length (by omega) (by omega)) rfl rfl ?_
  refine DT_ev rfl (EA_sadd rfl rfl (by assumption)) rfl ?_
  refine DT_ev rfl (EA_assign) rfl ?_
  refine DTi.nil ?_
  refine hK6 _ _ _ ?_
  refine AC_ret ?_
  refine ret_ok hdm (.tmp rfl rfl .nil) (.cons .d .nil) ?_
  try rw [predS]
  try simp_all [List.length_pos_iff, T.kind, T.name, T.kids, slash]
end Go.Proofs.YtjgliechbnommaaGreatDoor
set_option linter.unusedVariables false
set_option linter.unusedSimpArgs false
namespace Go.Proofs.YtjgliechbnommaaGreatDoor
open Go.Eng
theorem tz5 : tyZero Tryz.prog 5 = some (some (.int .u8 0)) := by kernel_rfl
theorem cl104 : Callable Tryz.prog 104 := Callable_of Tryz.func104 (by kernel_rfl) (by kernel_rfl)
theorem te22 : tyElem Tryz.prog 22 = some 5 := by kernel_rfl
theorem tint5 : tyInt Tryz.prog 5 = some .u8 := by kernel_rfl
theorem ts5 : tySize Tryz.prog 5 = some 1 := by kernel_rfl
theorem tund3 : (Tryz.prog.underlying 3).isSome = true := by kernel_rfl
set_option maxHeartbeats 1000000 in
set_option maxRecDepth 4000 in
theorem c_figure (x : Int) (h0 : 0 ≤ x) (h1 : x ≤ 9) : PCall Tryz.prog 104 [.c (.int .i64 x)] (· = [.c (.int .u8 (48 + x))]) := by
 refine PCall_of (n := 12) Tryz.func104 rfl rfl (Nat.le_of_ble_eq_true rfl) fun C hdm hT0 => ?_
 have hT := hT0
 refine AC_seq fun K1 hK1 => ?_
 refine AC_region ?_
 refine AL_ev (Ev_assign) rfl ?_
 refine AL_nil ?_
 refine hK1 _ _ _ ?_
 refine AC_seq fun K2 hK2 => ?_
 refine AC_seq fun K3 hK3 => ?_
 refine AC_region ?_
 refine AL_ev (Ev_move) rfl ?_
 refine AL_ev (Ev_lss rfl rfl) rfl ?_
 refine AL_nil ?_
 refine hK3 _ _ _ ?_
 refine AC_cond rfl (fun hc1 => ?_) (fun hc1 => ?_)
 ·refine AC_seq fun K4 hK4 => ?_
  refine AC_region ?_
  refine AL_ev (Ev_move) rfl ?_
  refine AL_ev (Ev_add rfl rfl _ (wrap_id (by omega) (by omega))) rfl ?_
  refine AL_ev (Ev_conv_int tund3 tint5 rfl _ rfl) rfl ?_
  refine AL_ev (Ev_assign) rfl ?_
  refine AL_nil ?_
  refine hK4 _ _ _ ?_
  refine AC_ret ?_
  refine ret_ok hdm (.tmp rfl rfl .nil) (.cons .d .nil) ?_
  rw [wrap8 _ (by omega) (by omega)]
 ·have : ¬ x < 10 := by simpa using hc1
  omega
set_option maxHeartbeats 1000000 in
set_option maxRecDepth 4000 in
theorem c_specDecimal (n : Int) (h0 : 0 ≤ n) (h1 : n ≤ 9223372036854775807) : PCall Tryz.prog 72 [.c (.int .i64 n)] (· = [.c (.string (dec n))]) := by
 refine PCall_of (n := 30) Tryz.func72 rfl rfl (Nat.le_of_ble_eq_true rfl) fun C hdm hT0 => ?_
 have hT := hT0
 refine AC_seq fun K1 hK1 => ?_
 refine AC_region ?_
 refine AL_ev (Ev_assign) rfl ?_
 refine AL_nil ?_
 refine hK1 _ _ _ ?_
 refine AC_seq fun K2 hK2 => ?_
 refine AC_seq fun K3 hK3 => ?_
 refine AC_region ?_
 refine AL_ev (Ev_move) rfl ?_
 refine AL_ev (Ev_eql rfl rfl) rfl ?_
 refine AL_nil ?_
 refine hK3 _ _ _ ?_
 refine AC_cond rfl (fun hc1 => ?_) (fun hc1 => ?_)
 ·refine AC_seq fun K4 hK4 => ?_
  refine AC_region ?_
  refine AL_ev (Ev_assign) rfl ?_
  refine AL_nil ?_
  refine hK4 _ _ _ ?_
  refine AC_ret ?_
  refine ret_ok hdm (.tmp rfl rfl .nil) (.cons .d .nil) ?_
  have : n = 0 := by simpa using hc1
  subst this
  rw [dec_zero]
 ·refine AC_skip ?_
  refine hK2 _ _ _ ?_
  refine AC_seq fun K5 hK5 => ?_
  refine AC_region ?_
  refine AL_ev (Ev_move) rfl ?_
  refine AL_ev (Ev_lss rfl rfl) rfl ?_
  refine AL_ev (Ev_assign) rfl ?_
  refine AL_nil ?_
  refine hK5 _ _ _ ?_
  refine AC_seq fun K6 hK6 => ?_
  refine AC_region ?_
  refine AL_ev (Ev_assign) rfl ?_
  refine AL_nil ?_
  refine hK6 _ _ _ ?_
  refine AC_seq fun K7 hK7 => ?_
  refine AC_block ?_
  refine AC_loopS [3] (Int × ByteArray) (fun ⟨q, s⟩ => [(0, i64 q), (4, st s)]) (fun ⟨q, s⟩ => []) (fun st => st.1.toNat) (fun ⟨q, s⟩ => (Lib.decDigits n.toNat = toCome q ++ s.data.toList ∧ 0 ≤ q ∧ q ≤ n)) ((n, ⟨#[]⟩)) ?_ ?_ ?_
  ·exact enterS [] rfl rfl BxTo_nil (SlTo_cons (by exact .rd .d) (SlTo_cons (by exact .rd .d) (SlTo_cons (by exact .rd .d) SlTo_nil)))
  ·have : ¬ n = 0 := by simpa using hc1
   exact ⟨by simp [toCome, this], h0, Int.le_refl _⟩
  rintro ⟨q, s⟩ ⟨hI, hq0, hq1⟩
  show AC _ _ _ _ _ (FS [3] _ [(0, i64 q), (4, st s)]) []
  refine AC_seq fun K8 hK8 => ?_
  refine AC_seq fun K9 hK9 => ?_
  refine AC_region ?_
  refine AL_ev (Ev_move) rfl ?_
  refine AL_ev (Ev_neq rfl rfl) rfl ?_
  refine AL_nil ?_
  refine hK9 _ _ _ ?_
  refine AC_cond rfl (fun hc2 => ?_) (fun hc2 => ?_)
  ·have hqp : 0 < q := by
    have : ¬ q = 0 := by simpa using hc2
    omega
   have ht := tdm10 hqp
   have hwq : IntKind.i64.wrap (q.tdiv 10) = q.tdiv 10 := wrap_id (by omega) (by omega)
   have hfi : (48 + q.tmod 10).toNat = 48 + (q.tmod 10).toNat := by omega
   have hsz := congrArg List.length hI
   have hdl := Lib.itoa_length_le n (by omega) (by omega)
   have hit : Lib.itoa n = Lib.decDigits n.toNat := by unfold Lib.itoa; rw [if_neg (by omega)]
   have hb8 : (strOfNums [48 + q.tmod 10]).size + s.size ≤ 4611686018427387904 := by
    rw [strOfNums_size]
    rw [hit] at hdl
    have : s.data.toList.length = s.size := by simp
    rw [List.length_append] at hsz
    simp only [List.length_singleton]
    omega
   refine AC_skip ?_
   refine hK8 _ _ _ ?_
   refine AC_block ?_
   refine AC_seq fun K10 hK10 => ?_
   refine AC_region ?_
   refine AL_ev (Ev_move) rfl ?_
   refine AL_ev (Ev_rem rfl rfl (by decide)) rfl ?_
   refine AL_ev (Ev_assign) rfl ?_
   refine AL_nil ?_
   refine hK10 _ _ _ ?_
   refine AC_seq fun K11 hK11 => ?_
   refine AC_seq fun K12 hK12 => ?_
   refine AC_region ?_
   refine AL_ev (Ev_move) rfl ?_
   refine AL_ev (Ev_lss rfl rfl) rfl ?_
   refine AL_nil ?_
   refine hK12 _ _ _ ?_
   refine AC_cond rfl (fun hc3 => ?_) (fun hc3 => ?_)
   ·have : q.tmod 10 < 0 := by simpa using hc3
    omega
   ·refine AC_skip ?_
    refine hK11 _ _ _ ?_
    refine AC_seq fun K13 hK13 => ?_
    refine AC_region ?_
    refine AL_ev (Ev_move) rfl ?_
    refine AL_fcall0 hT rfl cl104 (c_figure (q.tmod 10) (by omega) (by omega)) rfl rfl ?_
    refine AL_bD .one rfl te22 ts5 tz5 rfl rfl (by decide) (by decide) (by rfl) rfl ?_
    refine AL_ev (Ev_conv_bytes [_] te22 tint5 tstr9 rfl Nat.one_pos) rfl ?_
    refine AL_ev (Ev_move) rfl ?_
    refine AL_ev (Ev_sadd rfl rfl (by assumption)) rfl ?_
    refine AL_ev (Ev_assign) rfl ?_
    refine AL_nil ?_
    refine hK13 _ _ _ ?_
    refine AC_region ?_
    refine AL_ev (Ev_move) rfl ?_
    refine AL_ev (Ev_quo rfl rfl (by decide) _ rfl) rfl ?_
    refine AL_ev (Ev_assign) rfl ?_
    refine AL_nil ?_
    refine closeS (q.tdiv 10, strOfNums [48 + q.tmod 10] ++ s) [] rfl rfl (by show (q.tdiv 10).toNat < q.toNat; omega) ?_ BxTo_nil (SlTo_cons (by exact Vw_int (by assumption)) (SlTo_cons (by exact .rd .d) (SlTo_cons (by exact .rd .d) SlTo_nil)))
    exact ⟨by rw [hI, toCome_step hqp, ba_app, strOfNums_data]; simp [hfi], by omega, by omega⟩
  ·refine AC_exit ?_
   refine hK7 _ _ _ ?_
   refine AC_seq fun K14 hK14 => ?_
   refine AC_seq fun K15 hK15 => ?_
   refine AC_region ?_
   refine AL_ev (Ev_move) rfl ?_
   refine AL_nil ?_
   refine hK15 _ _ _ ?_
   refine AC_cond rfl (fun hc4 => ?_) (fun hc4 => ?_)
   ·have : n < 0 := by simpa using hc4
    omega
   ·refine AC_skip ?_
    refine hK14 _ _ _ ?_
    refine AC_seq fun K16 hK16 => ?_
    refine AC_region ?_
    refine AL_ev (Ev_move) rfl ?_
    refine AL_ev (Ev_assign) rfl ?_
    refine AL_nil ?_
    refine hK16 _ _ _ ?_
    refine AC_ret ?_
    refine ret_ok hdm (.tmp rfl rfl .nil) (.cons .d .nil) ?_
    have hqz : q = 0 := by simpa using hc2
    subst hqz
    congr 3
    refine ba_ext ?_
    rw [dec_pos h0, hI]
    simp [toCome]
end Go.Proofs.YtjgliechbnommaaGreatDoor
set_option linter.unusedVariables false
set_option linter.unusedSimpArgs false
namespace Go.Proofs.YtjgliechbnommaaGreatDoor
open Go.Eng
theorem tz54 : tyZero Tryz.prog 54 = some (some (.agg #[.int .i64 0, .string ⟨#[]⟩, .int .i64 0, .slice none 0 0, .int .i64 0, .string ⟨#[]⟩, .int .i64 0, .slice none 0 0, .string ⟨#[]⟩])) := by kernel_rfl
theorem tz9 : tyZero Tryz.prog 9 = some (some (.string ⟨#[]⟩)) := by kernel_rfl
theorem cl34 : Callable Tryz.prog 34 := Callable_of Tryz.func34 (by kernel_rfl) (by kernel_rfl)
theorem cl41 : Callable Tryz.prog 41 := Callable_of Tryz.func41 (by kernel_rfl) (by kernel_rfl)
theorem cl43 : Callable Tryz.prog 43 := Callable_of Tryz.func43 (by kernel_rfl) (by kernel_rfl)
theorem cl44 : Callable Tryz.prog 44 := Callable_of Tryz.func44 (by kernel_rfl) (by kernel_rfl)
theorem cl50 : Callable Tryz.prog 50 := Callable_of Tryz.func50 (by kernel_rfl) (by kernel_rfl)
theorem cl52 : Callable Tryz.prog 52 := Callable_of Tryz.func52 (by kernel_rfl) (by kernel_rfl)
theorem cl55 : Callable Tryz.prog 55 := Callable_of Tryz.func55 (by kernel_rfl) (by kernel_rfl)
theorem cl72 : Callable Tryz.prog 72 := Callable_of Tryz.func72 (by kernel_rfl) (by kernel_rfl)
theorem fa27_0 : tyField Tryz.prog 27 0 = some (0, true) := by kernel_rfl
theorem fa54_0 : tyField Tryz.prog 54 0 = some (0, true) := by kernel_rfl
theorem ta24 : tyAgg Tryz.prog 24 = some false := by kernel_rfl
theorem ta54 : tyAgg Tryz.prog 54 = some true := by kernel_rfl
theorem tb9 : tyBytes Tryz.prog 9 = some 16 := by kernel_rfl
theorem te24 : tyElem Tryz.prog 24 = some 54 := by kernel_rfl
theorem te25 : tyElem Tryz.prog 25 = some 9 := by kernel_rfl
theorem ts24 : tySize Tryz.prog 24 = some 1 := by kernel_rfl
theorem ts54 : tySize Tryz.prog 54 = some 9 := by kernel_rfl
theorem zo54 : ZeroOf Tryz.prog 54 (Lay.st [(Lay.st [.one, .one, .one, .one]), (Lay.st [.one, .one, .one, .one]), .one]) (.d (.agg [(Lay.st [.one, .one, .one, .one]), (Lay.st [.one, .one, .one, .one]), .one] [.agg [.one, .one, .one, .one] [.c (.int .i64 0), .c (.string ⟨#[]⟩), .c (.int .i64 0), .c (.slice none 0 0)], .agg [.one, .one, .one, .one] [.c (.int .i64 0), .c (.string ⟨#[]⟩), .c (.int .i64 0), .c (.slice none 0 0)], .c (.string ⟨#[]⟩)])) := ⟨_, tz54, rfl, fun _ _ _ => VC_cells rfl⟩
set_option maxHeartbeats 1000000 in
set_option maxRecDepth 4000 in
theorem c_indexS (xs : List ByteArray) (s : ByteArray) : PCall Tryz.prog 43 [.sl .one (strs xs), .c (.string s)] (· = [.c (.int .i64 (idxS xs s 0))]) := by
 refine PCall_of (n := 19) Tryz.func43 rfl rfl (Nat.le_of_ble_eq_true rfl) fun C hdm hT0 => ?_
 have hT := hT0
 refine AC_seq fun K1 hK1 => ?_
 refine AC_region ?_
 refine AL_ev (Ev_assign) rfl ?_
 refine AL_nil ?_
 refine hK1 _ _ _ ?_
 refine AC_seq fun K2 hK2 => ?_
 refine AC_seq fun K3 hK3 => ?_
 refine AC_region ?_
 refine AL_ev (Ev_move) rfl ?_
 refine AL_lim (x := (Operand.tmp 6)) rfl fun hl1 => ?_
 try simp only [injs_length, ints_length, strs_length, injCs_length, u8s_length, List.length_map] at hl1
 refine AL_ev (Ev_len_strs te25 rfl) rfl ?_
 refine AL_ev (Ev_move) rfl ?_
 refine AL_nil ?_
 refine hK3 _ _ _ ?_
 refine AC_block ?_
 refine AC_loopS [0, 1, 7] (Nat) (fun j => [(8, i64 j)]) (fun j => []) (fun st => xs.length - st) (fun j => j ≤ xs.length ∧ idxS xs s 0 = idxS (xs.drop j) s j) (0) ?_ ?_ ?_
 ·exact enterS [] rfl rfl BxTo_nil (SlTo_cons (by exact .rd .d) (SlTo_cons (by exact .rd .d) (SlTo_cons (by exact .rd .d) (SlTo_cons (by exact .rd .d) SlTo_nil))))
 ·exact ⟨Nat.zero_le _, by simp⟩
 rintro j ⟨hj, hI⟩
 show AC _ _ _ _ _ (FS [0, 1, 7] _ [(8, i64 j)]) []
 refine AC_seq fun K4 hK4 => ?_
 refine AC_region ?_
 refine AL_ev (Ev_lss rfl rfl) rfl ?_
 refine AL_nil ?_
 refine hK4 _ _ _ ?_
 refine AC_seq fun K5 hK5 => ?_
 refine AC_cond rfl (fun hc1 => ?_) (fun hc1 => ?_)
 ·have hlt : j < xs.length := by simpa using hc1
  obtain ⟨u, hu⟩ : ∃ x, xs[j]? = some x := ⟨_, List.getElem?_eq_getElem hlt⟩
  have hu2 := strs_get hu
  have hdr := drop_get hu
  refine AC_skip ?_
  refine hK5 _ _ _ ?_
  refine AC_seq fun K6 hK6 => ?_
  refine AC_block ?_
  refine AC_seq fun K7 hK7 => ?_
  refine AC_region ?_
  refine AL_ev (Ev_move) rfl ?_
  refine AL_ev (Ev_assign) rfl ?_
  refine AL_nil ?_
  refine hK7 _ _ _ ?_
  refine AC_seq fun K8 hK8 => ?_
  refine AC_region ?_
  refine AL_ev (Ev_move) rfl ?_
  refine AL_ev (Ev_move) rfl ?_
  refine AL_ev (Ev_move) rfl ?_
  refine AL_ev (Ev_ix_sl rfl rfl te25 ts9 (by omega) (by assumption)) rfl ?_
  refine AL_ev (Ev_load_rp rfl rfl rfl ts9 ta9 rfl (fun _ => rfl)) rfl ?_
  refine AL_ev (Ev_seql rfl rfl) rfl ?_
  refine AL_nil ?_
  refine hK8 _ _ _ ?_
  refine AC_cond rfl (fun hc2 => ?_) (fun hc2 => ?_)
  ·refine AC_seq fun K9 hK9 => ?_
   refine AC_region ?_
   refine AL_ev (Ev_move) rfl ?_
   refine AL_ev (Ev_assign) rfl ?_
   refine AL_nil ?_
   refine hK9 _ _ _ ?_
   refine AC_ret ?_
   refine ret_ok hdm (.tmp rfl rfl .nil) (.cons .d .nil) ?_
   try rw [hI]
   try rw [hdr]
   try simp_all [List.length_pos_iff, idxS, eq_comm]
  ·refine AC_skip ?_
   refine hK6 _ _ _ ?_
   refine AC_region ?_
   refine AL_ev (Ev_add rfl rfl _ (wrap_id (by omega) (by omega))) rfl ?_
   refine AL_ev (Ev_move) rfl ?_
   refine AL_nil ?_
   refine closeS (j + 1) [] rfl rfl (by show xs.length - (j + 1) < xs.length - j; omega) ⟨hlt, ?_⟩ BxTo_nil (SlTo_cons (by exact .rd .d) (SlTo_cons (by exact .rd .d) (SlTo_cons (by exact .rd .d) (SlTo_cons (by exact .rd .d) SlTo_nil))))
   rw [hI]
   try rw [hdr]
   try simp_all [idxS, eq_comm]
 ·have hj2 : j = xs.length := by
   have : ¬ j < xs.length := by simpa using hc1
   omega
  subst hj2
  rw [List.drop_length] at hI
  refine AC_exit ?_
  refine hK2 _ _ _ ?_
  refine AC_seq fun K10 hK10 => ?_
  refine AC_region ?_
  refine AL_ev (Ev_assign) rfl ?_
  refine AL_nil ?_
  refine hK10 _ _ _ ?_
  refine AC_ret ?_
  refine ret_ok hdm (.tmp rfl rfl .nil) (.cons .d .nil) ?_
  try rw [hI]
  try simp_all [List.length_pos_iff, idxS, eq_comm]
set_option maxHeartbeats 1000000 in
set_option maxRecDepth 4000 in
theorem c_containsS (xs : List ByteArray) (s : ByteArray) : PCall Tryz.prog 55 [.sl .one (strs xs), .c (.string s)] (· = [.c (.bool (hasS xs s))]) := by
 refine PCall_of (n := 9) Tryz.func55 rfl rfl (Nat.le_of_ble_eq_true rfl) fun C hdm hT0 => ?_
 have hT := hT0
 refine AC_seq fun K1 hK1 => ?_
 refine AC_region ?_
 refine AL_ev (Ev_assign) rfl ?_
 refine AL_nil ?_
 refine hK1 _ _ _ ?_
 refine AC_seq fun K2 hK2 => ?_
 refine AC_region ?_
 refine AL_ev (Ev_move) rfl ?_
 refine AL_ev (Ev_move) rfl ?_
 refine AL_fcall0 hT rfl cl43 (c_indexS xs s) rfl rfl ?_
 refine AL_ev (Ev_geq rfl rfl) rfl ?_
 refine AL_ev (Ev_assign) rfl ?_
 refine AL_nil ?_
 refine hK2 _ _ _ ?_
 refine AC_ret ?_
 refine ret_ok hdm (.tmp rfl rfl .nil) (.cons .d .nil) ?_
 rw [idxS_has]
set_option maxHeartbeats 1000000 in
set_option maxRecDepth 4000 in
theorem c_l23Has (xs : List ByteArray) (s : ByteArray) : PCall Tryz.prog 50 [.sl .one (strs xs), .c (.string s)] (· = [.c (.bool (hasS xs s))]) := by
 refine PCall_of (n := 18) Tryz.func50 rfl rfl (Nat.le_of_ble_eq_true rfl) fun C hdm hT0 => ?_
 have hT := hT0
 refine AC_seq fun K1 hK1 => ?_
 refine AC_region ?_
 refine AL_ev (Ev_assign) rfl ?_
 refine AL_nil ?_
 refine hK1 _ _ _ ?_
 refine AC_seq fun K2 hK2 => ?_
 refine AC_seq fun K3 hK3 => ?_
 refine AC_region ?_
 refine AL_ev (Ev_assign) rfl ?_
 refine AL_nil ?_
 refine hK3 _ _ _ ?_
 refine AC_block ?_
 refine AC_loopS [0, 1] (Nat) (fun j => [(5, i64 j)]) (fun j => []) (fun st => xs.length - st) (fun j => j ≤ xs.length ∧ hasS xs s = hasS (xs.drop j) s) (0) ?_ ?_ ?_
 ·exact enterS [] rfl rfl BxTo_nil (SlTo_cons (by exact .rd .d) (SlTo_cons (by exact .rd .d) (SlTo_cons (by exact .rd .d) SlTo_nil)))
 ·exact ⟨Nat.zero_le _, by simp⟩
 rintro j ⟨hj, hI⟩
 show AC _ _ _ _ _ (FS [0, 1] _ [(5, i64 j)]) []
 refine AC_seq fun K4 hK4 => ?_
 refine AC_seq fun K5 hK5 => ?_
 refine AC_region ?_
 refine AL_ev (Ev_move) rfl ?_
 refine AL_ev (Ev_move) rfl ?_
 refine AL_lim (x := (Operand.tmp 7)) rfl fun hl1 => ?_
 try simp only [injs_length, ints_length, strs_length, injCs_length, u8s_length, List.length_map] at hl1
 refine AL_ev (Ev_len_strs te25 rfl) rfl ?_
 refine AL_ev (Ev_lss rfl rfl) rfl ?_
 refine AL_nil ?_
 refine hK5 _ _ _ ?_
 refine AC_cond rfl (fun hc1 => ?_) (fun hc1 => ?_)
 ·have hlt : j < xs.length := by simpa using hc1
  obtain ⟨u, hu⟩ : ∃ x, xs[j]? = some x := ⟨_, List.getElem?_eq_getElem hlt⟩
  have hu2 := strs_get hu
  have hdr := drop_get hu
  refine AC_skip ?_
  refine hK4 _ _ _ ?_
  refine AC_seq fun K6 hK6 => ?_
  refine AC_block ?_
  refine AC_seq fun K7 hK7 => ?_
  refine AC_region ?_
  refine AL_ev (Ev_move) rfl ?_
  refine AL_ev (Ev_move) rfl ?_
  refine AL_ev (Ev_ix_sl rfl rfl te25 ts9 (by omega) (by assumption)) rfl ?_
  refine AL_ev (Ev_load_rp rfl rfl rfl ts9 ta9 rfl (fun _ => rfl)) rfl ?_
  refine AL_ev (Ev_move) rfl ?_
  refine AL_ev (Ev_seql rfl rfl) rfl ?_
  refine AL_nil ?_
  refine hK7 _ _ _ ?_
  refine AC_cond rfl (fun hc2 => ?_) (fun hc2 => ?_)
  ·refine AC_seq fun K8 hK8 => ?_
   refine AC_region ?_
   refine AL_ev (Ev_assign) rfl ?_
   refine AL_nil ?_
   refine hK8 _ _ _ ?_
   refine AC_ret ?_
   refine ret_ok hdm (.tmp rfl rfl .nil) (.cons .d .nil) ?_
   try rw [hI]
   try rw [hdr]
   try simp_all [List.length_pos_iff, hasS]
  ·refine AC_skip ?_
   refine hK6 _ _ _ ?_
   refine AC_region ?_
   refine AL_ev (Ev_move) rfl ?_
   refine AL_ev (Ev_add rfl rfl _ (wrap_id (by omega) (by omega))) rfl ?_
   refine AL_ev (Ev_assign) rfl ?_
   refine AL_nil ?_
   refine closeS (j + 1) [] rfl rfl (by show xs.length - (j + 1) < xs.length - j; omega) ⟨hlt, ?_⟩ BxTo_nil (SlTo_cons (by exact .rd .d) (SlTo_cons (by exact .rd .d) (SlTo_cons (by exact .rd .d) SlTo_nil)))
   rw [hI]
   try rw [hdr]
   try simp_all [hasS]
 ·have hj2 : j = xs.length := by
   have : ¬ j < xs.length := by simpa using hc1
   omega
  subst hj2
  rw [List.drop_length] at hI
  refine AC_exit ?_
  refine hK2 _ _ _ ?_
  refine AC_seq fun K9 hK9 => ?_
  refine AC_region ?_
  refine AL_ev (Ev_assign) rfl ?_
  refine AL_nil ?_
  refine hK9 _ _ _ ?_
  refine AC_ret ?_
  refine ret_ok hdm (.tmp rfl rfl .nil) (.cons .d .nil) ?_
  try rw [hI]
  try simp_all [List.length_pos_iff, hasS]
set_option maxHeartbeats 1000000 in
set_option maxRecDepth 4000 in
theorem c_l23Add (xs : List ByteArray) (s : ByteArray) (hl : xs.length + 1 ≤ 1099511627776) : PCall Tryz.prog 41 [.sl .one (strs xs), .c (.string s)] (· = [.sl .one (strs (onceL xs s))]) := by
 refine PCall_of (n := 15) Tryz.func41 rfl rfl (Nat.le_of_ble_eq_true rfl) fun C hdm hT0 => ?_
 have hT := hT0
 refine AC_seq fun K1 hK1 => ?_
 refine AC_region ?_
 refine AL_ev (Ev_assign) rfl ?_
 refine AL_nil ?_
 refine hK1 _ _ _ ?_
 refine AC_seq fun K2 hK2 => ?_
 refine AC_seq fun K3 hK3 => ?_
 refine AC_region ?_
 refine AL_ev (Ev_move) rfl ?_
 refine AL_ev (Ev_move) rfl ?_
 refine AL_fcall0 hT rfl cl50 (c_l23Has xs s) rfl rfl ?_
 refine AL_nil ?_
 refine hK3 _ _ _ ?_
 refine AC_cond rfl (fun hc1 => ?_) (fun hc1 => ?_)
 ·refine AC_seq fun K4 hK4 => ?_
  refine AC_region ?_
  refine AL_ev (Ev_move) rfl ?_
  refine AL_ev (Ev_assign) rfl ?_
  refine AL_nil ?_
  refine hK4 _ _ _ ?_
  refine AC_ret ?_
  exact ret_ok hdm (.tmp rfl rfl .nil) (.cons .d .nil) (by rw [onceL, if_pos hc1])
 ·refine AC_skip ?_
  refine hK2 _ _ _ ?_
  refine AC_seq fun K5 hK5 => ?_
  refine AC_region ?_
  refine AL_bV .one rfl te25 ts9 tz9 rfl rfl (by decide) (by decide) (by rfl) _ rfl rfl ?_
  refine AL_ev (Ev_move) rfl ?_
  refine AL_append rfl rfl rfl te25 ts9 tz9 rfl tb9 (by decide) (by decide) rfl (by rfl) (Src_sl rfl) (by simp only [lim]; (simp; omega)) _ rfl rfl ?_
  refine AL_ev (Ev_move) rfl ?_
  refine AL_bD .one rfl te25 ts9 tz9 rfl rfl (by decide) (by decide) (by rfl) rfl ?_
  refine AL_append rfl rfl rfl te25 ts9 tz9 rfl tb9 (by decide) (by decide) rfl (by (simp; done)) (Src_sl rfl) (by simp only [lim]; (simp; omega)) _ rfl rfl ?_
  refine AL_ev (Ev_assign) rfl ?_
  refine AL_nil ?_
  refine hK5 _ _ _ ?_
  refine AC_ret ?_
  refine ret_ok hdm (.tmp rfl rfl .nil) (.cons (.ref trivial rfl rfl (by simp) (ReadsL_eq (xs := strs xs ++ [.c (.string s)]) (by simp))) .nil) (by simp [onceL, hc1, strs])
set_option maxHeartbeats 1000000 in
set_option maxRecDepth 4000 in
theorem c_once (xs : List ByteArray) (s : ByteArray) (hl : xs.length + 1 ≤ 1099511627776) : BCall Tryz.prog 52 [] 9 .one (strs xs) [.c (.string s)] (strs (onceL xs s)) := by
 refine BCall_of (n := 13) Tryz.func52 rfl rfl (Nat.le_of_ble_eq_true rfl) fun C o hdm hT => ?_
 refine AC_seq fun K1 hK1 => ?_
 refine AC_region ?_
 refine AL_ev (Ev_assign) rfl ?_
 refine AL_nil ?_
 refine hK1 _ _ _ ?_
 refine AC_seq fun K2 hK2 => ?_
 refine AC_seq fun K3 hK3 => ?_
 refine AC_region ?_
 refine AL_ev (Ev_move) rfl ?_
 refine AL_ev (Ev_move) rfl ?_
 refine AL_qcall hT rfl cl55 (c_containsS xs s) (.cons (.rd (.ref trivial rfl rfl (by simp) (ReadsL_d _))) (.cons (.rd .d) .nil)) rfl ?_
 refine AL_nil ?_
 refine hK3 _ _ _ ?_
 refine AC_cond rfl (fun hc1 => ?_) (fun hc1 => ?_)
 ·refine AC_seq fun K4 hK4 => ?_
  refine AC_region ?_
  refine AL_ev (Ev_move) rfl ?_
  refine AL_ev (Ev_assign) rfl ?_
  refine AL_nil ?_
  refine hK4 _ _ _ ?_
  refine AC_ret ?_
  refine retb_ok hdm (.tmp rfl rfl .nil) rfl (by rw [onceL, if_pos hc1]) (by rw [onceL, if_pos hc1])
 ·refine AC_skip ?_
  refine hK2 _ _ _ ?_
  refine AC_seq fun K5 hK5 => ?_
  refine AC_region ?_
  refine AL_ev (Ev_move) rfl ?_
  refine AL_ev (Ev_move) rfl ?_
  refine AL_bD .one rfl te25 ts9 tz9 rfl rfl (by decide) (by decide) (by rfl) rfl ?_
  refine AL_append rfl rfl rfl te25 ts9 tz9 rfl tb9 (by decide) (by decide) rfl (by (simp; done)) (Src_sl rfl) (by simp only [lim]; (simp; omega)) _ rfl rfl ?_
  refine AL_ev (Ev_assign) rfl ?_
  refine AL_nil ?_
  refine hK5 _ _ _ ?_
  refine AC_ret ?_
  refine retb_ok hdm (.tmp rfl rfl .nil) rfl (by simp [onceL, hc1, strs]) (by simp [onceL, hc1])
set_option maxHeartbeats 1000000 in
set_option maxRecDepth 4000 in
theorem c_specPredOf (t : T) (hb : bulk t ≤ 1099511627776) : PCall Tryz.prog 34 [inj t] (· = [.c (.string (predS t))]) := by
 obtain ⟨k, s, m, ks⟩ := t
 obtain ⟨hs, hkl, hku⟩ := bulk_mk hb
 have hsz : s.size + (⟨#[47]⟩ : ByteArray).size ≤ 4611686018427387904 := by
  have : (⟨#[47]⟩ : ByteArray).size = 1 := rfl
  omega
 have hdz := dec_size (ks.length : Int) (by omega) (by omega)
 have hsz2 : (s ++ (⟨#[47]⟩ : ByteArray)).size + (dec ks.length).size ≤ 4611686018427387904 := by
  have : (⟨#[47]⟩ : ByteArray).size = 1 := rfl
  rw [ByteArray.size_append]
  omega
 refine PCall_of (n := 19) Tryz.func34 rfl rfl (Nat.le_of_ble_eq_true rfl) fun C hdm hT0 => ?_
 have hT := hT0
 refine AC_seq fun K1 hK1 => ?_
 refine AC_region ?_
 refine AL_box (Lay.st [.one, .one, .one, .one]) (nf rfl) rfl (by rfl) _ rfl rfl ?_
 refine AL_ev (Ev_assign) rfl ?_
 refine AL_nil ?_
 refine hK1 _ _ _ ?_
 refine AC_seq fun K2 hK2 => ?_
 refine AC_seq fun K3 hK3 => ?_
 refine AC_region ?_
 refine AL_ev (Ev_fa_ptr rfl fa41_0 rfl rfl) rfl ?_
 refine AL_ev (Ev_load_ptr rfl rfl rfl rfl rfl rfl ts3 ta3 rfl (fun _ => rfl)) rfl ?_
 refine AL_ev (Ev_neq rfl rfl) rfl ?_
 refine AL_ev (Ev_move) rfl ?_
 refine AL_bool 6 rfl (fun hg1 => ?_) (fun hg1 => ?_)
 ·refine AL_guard_t rfl rfl rfl ?_
  refine AL_ev (Ev_fa_ptr rfl fa41_0 rfl rfl) rfl ?_
  refine AL_guard_t rfl rfl rfl ?_
  refine AL_ev (Ev_load_ptr rfl rfl rfl rfl rfl rfl ts3 ta3 rfl (fun _ => rfl)) rfl ?_
  refine AL_guard_t rfl rfl rfl ?_
  refine AL_ev (Ev_neq rfl rfl) rfl ?_
  refine AL_ev (Ev_pick rfl) rfl ?_
  refine AL_nil ?_
  refine hK3 _ _ _ ?_
  refine AC_cond rfl (fun hc2 => ?_) (fun hc2 => ?_)
  ·refine AC_seq fun K4 hK4 => ?_
   refine AC_region ?_
   refine AL_ev (Ev_assign) rfl ?_
   refine AL_nil ?_
   refine hK4 _ _ _ ?_
   refine AC_ret ?_
   refine ret_ok hdm (.tmp rfl rfl .nil) (.cons .d .nil) ?_
   try rw [predS]
   try simp_all [List.length_pos_iff, T.kind, T.name, T.kids, slash]
  ·refine AC_skip ?_
   refine hK2 _ _ _ ?_
   refine AC_seq fun K5 hK5 => ?_
   refine AC_draw hT follows [0, 1, 2, 3, 4, 5, 6, 7, 8] (by kernel_rfl) ?_
   refine DT_ev rfl (EA_fa_ptr rfl fa41_1 rfl rfl) rfl ?_
   refine DT_ev rfl (EA_load_ptr rfl rfl rfl rfl rfl rfl ts9 ta9 rfl (fun _ => rfl)) rfl ?_
   refine DT_ev rfl (EA_sadd rfl rfl (by assumption)) rfl ?_
   refine DT_ev rfl (EA_fa_ptr rfl fa41_3 rfl rfl) rfl ?_
   refine DT_ev rfl (EA_load_ptr rfl rfl rfl rfl rfl rfl ts39 ta39 rfl (fun _ => rfl)) rfl ?_
   refine DT_ev rfl (EA_len_injs te39 rfl) rfl ?_
   refine DT_fcall0 rfl rfl cl72 (c_specDecimal ks.length (by omega) (by omega)) rfl rfl ?_
   refine DT_ev rfl (EA_sadd rfl rfl (by assumption)) rfl ?_
   refine DT_ev rfl (EA_assign) rfl ?_
   refine DTi.nil ?_
   refine hK5 _ _ _ ?_
   refine AC_ret ?_
   refine ret_ok hdm (.tmp rfl rfl .nil) (.cons .d .nil) ?_
   try rw [predS]
   try simp_all [List.length_pos_iff, T.kind, T.name, T.kids, slash]
 ·refine AL_guard_f rfl rfl rfl rfl ?_
  refine AL_guard_f rfl rfl rfl rfl ?_
  refine AL_guard_f rfl rfl rfl rfl ?_
  refine AL_ev (Ev_pick rfl) rfl ?_
  refine AL_nil ?_
  refine hK3 _ _ _ ?_
  refine AC_cond_f rfl ?_
  refine AC_skip ?_
  refine hK2 _ _ _ ?_
  refine AC_seq fun K6 hK6 => ?_
  refine AC_draw hT follows [0, 1, 2, 3, 4, 5, 6, 7, 8] (by kernel_rfl) ?_
  refine DT_ev rfl (EA_fa_ptr rfl fa41_1 rfl rfl) rfl ?_
  refine DT_ev rfl (EA_load_ptr rfl rfl rfl rfl rfl rfl ts9 ta9 rfl (fun _ => rfl)) rfl ?_
  refine DT_ev rfl (EA_sadd rfl rfl (by assumption)) rfl ?_
  refine DT_ev rfl (EA_fa_ptr rfl fa41_3 rfl rfl) rfl ?_
  refine DT_ev rfl (EA_load_ptr rfl rfl rfl rfl rfl rfl ts39 ta39 rfl (fun _ => rfl)) rfl ?_
  refine DT_ev rfl (EA_len_injs te39 rfl) rfl ?_
  refine DT_fcall0 rfl rfl cl72 (c_specDecimal ks.length (by omega) (by omega)) rfl rfl ?_
  refine DT_ev rfl (EA_sadd rfl rfl (by assumption)) rfl ?_
  refine DT_ev rfl (EA_assign) rfl ?_
  refine DTi.nil ?_
  refine hK6 _ _ _ ?_
  refine AC_ret ?_
  refine ret_ok hdm (.tmp rfl rfl .nil) (.cons .d .nil) ?_
  try rw [predS]
  try simp_all [List.length_pos_iff, T.kind, T.name, T.kids, slash]
set_option maxHeartbeats 1000000 in
set_option maxRecDepth 4000 in
theorem c_predsOf (d : Dbt) (hb : bulkD d ≤ 1048576) : OCall Tryz.prog 16 [injD d] (.sl .one (strs (predsF d.cs []))) := by
 obtain ⟨cs, op⟩ := d
 obtain ⟨hnc, hbc, hno, hbo⟩ := bulkD_bd hb
 refine OCall_of (n := 20) Tryz.func16 rfl rfl (Nat.le_of_ble_eq_true rfl) fun C0 hdm hT0 => ?_
 have hX0 := CExt.refl C0
 have hT := hT0
 refine AC_seq fun K1 hK1 => ?_
 refine AC_region ?_
 refine AL_box (Lay.st [.one, .one]) (nf rfl) rfl (by rfl) _ rfl rfl ?_
 refine AL_ev (Ev_assign) rfl ?_
 refine AL_nil ?_
 refine hK1 _ _ _ ?_
 refine AC_seq fun K2 hK2 => ?_
 refine AC_region ?_
 refine AL_ev (Ev_assign) rfl ?_
 refine AL_nil ?_
 refine hK2 _ _ _ ?_
 refine AC_seq fun K3 hK3 => ?_
 refine AC_seq fun K4 hK4 => ?_
 refine AC_region ?_
 refine AL_ev (Ev_fa_ptr rfl fa27_0 rfl rfl) rfl ?_
 refine AL_ev (Ev_load_ptr rfl rfl rfl rfl rfl rfl ts24 ta24 rfl (fun _ => rfl)) rfl ?_
 refine AL_lim (x := (Operand.tmp 7)) rfl fun hl1 => ?_
 try simp only [injs_length, ints_length, strs_length, injCs_length, u8s_length, List.length_map] at hl1
 refine AL_ev (Ev_len_injCs te24 rfl) rfl ?_
 refine AL_ev (Ev_move) rfl ?_
 refine AL_nil ?_
 refine hK4 _ _ _ ?_
 refine AC_block ?_
 refine AC_loopS [7, 8] (Nat × List ByteArray) (fun ⟨j, out⟩ => [(9, i64 j), (3, .ref .one 0 0 (strs out).length)]) (fun ⟨j, out⟩ => [some ⟨9, .one, (strs out).map V.d⟩]) (fun st => cs.length - st.1) (fun ⟨j, out⟩ => j ≤ cs.length ∧ (predsF cs [] = predsF (cs.drop j) out ∧ out.length ≤ j)) ((0, [])) ?_ ?_ ?_
 ·refine Wk.then (Wk_nil_slot 3 9 .one rfl 1 rfl ?_)
  exact enterS [some 1] rfl rfl (BxTo_some rfl rfl rfl rfl (by exact .nil) BxTo_nil) (SlTo_cons (by exact .rd .d) (SlTo_cons (Vw_refe rfl (by rfl)) (SlTo_cons (by exact .rd .d) (SlTo_cons (by exact .rd .d) SlTo_nil))))
 ·exact ⟨Nat.zero_le _, by simp, by simp⟩
 rintro ⟨j, out⟩ ⟨hj, ⟨hI, ho⟩⟩
 show AC _ _ _ _ _ (FS [7, 8] _ [(9, i64 j), (3, .ref .one 0 0 (strs out).length)]) [some ⟨9, .one, (strs out).map V.d⟩]
 refine AC_seq fun K5 hK5 => ?_
 refine AC_region ?_
 refine AL_ev (Ev_lss rfl rfl) rfl ?_
 refine AL_nil ?_
 refine hK5 _ _ _ ?_
 refine AC_seq fun K6 hK6 => ?_
 refine AC_cond rfl (fun hc1 => ?_) (fun hc1 => ?_)
 ·have hlt : j < cs.length := by simpa using hc1
  obtain ⟨u, hu⟩ : ∃ x, cs[j]? = some x := ⟨_, List.getElem?_eq_getElem hlt⟩
  have hu2 := injCs_get hu
  have hdr := drop_get hu
  obtain ⟨hbu, _, _⟩ := bulkCs_bd (List.mem_of_getElem? hu) hbc
  rw [hdr, predsF] at hI
  have hol := onceL_len out (predS u.h)
  refine AC_skip ?_
  refine hK6 _ _ _ ?_
  refine AC_seq fun K7 hK7 => ?_
  refine AC_block ?_
  refine AC_seq fun K8 hK8 => ?_
  refine AC_region ?_
  refine AL_ev (Ev_ix_sl rfl rfl te24 ts54 (by omega) (by assumption)) rfl ?_
  refine AL_ev (Ev_load_rp rfl rfl rfl ts54 ta54 (by rfl) (by intro h; cases h)) rfl ?_
  refine AL_alloc zo54 _ rfl rfl ?_
  refine AL_store rfl (nf rfl) rfl rfl rfl rfl rfl rfl (by rfl) ts54 rfl rfl ?_
  refine AL_nil ?_
  refine hK8 _ _ _ ?_
  refine AC_region ?_
  refine AL_ev (Ev_move) rfl ?_
  refine AL_ev (Ev_fa_ptr rfl fa54_0 rfl rfl) rfl ?_
  refine AL_ev (Ev_load_ptr rfl rfl rfl rfl rfl rfl ts41 ta41 (by simp) (by intro h; cases h)) rfl ?_
  refine AL_fcall0 hT rfl cl44 (c_predOf u.h (by omega)) rfl rfl ?_
  refine AL_bcall hT _ _ [] rfl cl52 rfl rfl rfl rfl (c_once out (predS u.h) (by omega)) rfl rfl (by rfl) _ rfl rfl ?_
  refine AL_ev (Ev_assign) rfl ?_
  refine AL_nil ?_
  refine hK7 _ _ _ ?_
  refine AC_region ?_
  refine AL_ev (Ev_add rfl rfl _ (wrap_id (by omega) (by omega))) rfl ?_
  refine AL_ev (Ev_move) rfl ?_
  refine AL_nil ?_
  refine closeS (j + 1, onceL out (predS u.h)) [some 2] rfl rfl (by show cs.length - (j + 1) < cs.length - j; omega) ⟨hlt, ?_⟩ (BxTo_some rfl rfl rfl rfl (by exact VwL_dd (by rfl)) BxTo_nil) (SlTo_cons (by exact .rd .d) (SlTo_cons (Vw_refe rfl (by rfl)) (SlTo_cons (by exact .rd .d) (SlTo_cons (by exact .rd .d) SlTo_nil))))
  exact ⟨hI, by omega⟩
 ·have hj2 : j = cs.length := by
   have : ¬ j < cs.length := by simpa using hc1
   omega
  subst hj2
  rw [List.drop_length] at hI
  refine AC_exit ?_
  refine hK3 _ _ _ ?_
  refine AC_seq fun K9 hK9 => ?_
  refine AC_region ?_
  refine AL_ev (Ev_move) rfl ?_
  refine AL_ev (Ev_assign) rfl ?_
  refine AL_nil ?_
  refine hK9 _ _ _ ?_
  refine AC_ret ?_
  rw [predsF] at hI
  show Fin _ _ (retOQ _ _ _ (.sl .one (strs (predsF cs []))) _) _ _
  rw [hI]
  refine reto_ok hX0 hdm (.tmp rfl rfl .nil) (.ref rfl rfl (by simp) (OwVs_strs (by simp)) (by simp)) rfl rfl
set_option maxHeartbeats 1000000 in
set_option maxRecDepth 4000 in
theorem c_specPredsOf (d : Dbt) (hb : bulkD d ≤ 1048576) : PCall Tryz.prog 9 [injD d] (· = [.sl .one (strs (predsF d.cs []))]) := by
 obtain ⟨cs, op⟩ := d
 obtain ⟨hnc, hbc, hno, hbo⟩ := bulkD_bd hb
 refine PCall_of (n := 23) Tryz.func9 rfl rfl (Nat.le_of_ble_eq_true rfl) fun C hdm hT0 => ?_
 have hT := hT0
 refine AC_seq fun K1 hK1 => ?_
 refine AC_region ?_
 refine AL_box (Lay.st [.one, .one]) (nf rfl) rfl (by rfl) _ rfl rfl ?_
 refine AL_ev (Ev_assign) rfl ?_
 refine AL_nil ?_
 refine hK1 _ _ _ ?_
 refine AC_seq fun K2 hK2 => ?_
 refine AC_region ?_
 refine AL_bD .one rfl te25 ts9 tz9 rfl rfl (by decide) (by decide) (by rfl) rfl ?_
 refine AL_ev (Ev_assign) rfl ?_
 refine AL_nil ?_
 refine hK2 _ _ _ ?_
 refine AC_seq fun K3 hK3 => ?_
 refine AC_seq fun K4 hK4 => ?_
 refine AC_region ?_
 refine AL_ev (Ev_assign) rfl ?_
 refine AL_nil ?_
 refine hK4 _ _ _ ?_
 refine AC_block ?_
 refine AC_loopS [] (Nat × List ByteArray) (fun ⟨j, out⟩ => [(4, i64 j), (3, .d (.sl .one (strs out))), (1, .d (.rp (Lay.st [.one, .one]) (injD ⟨cs, op⟩) []))]) (fun ⟨j, out⟩ => []) (fun st => cs.length - st.1) (fun ⟨j, out⟩ => j ≤ cs.length ∧ (predsF cs [] = predsF (cs.drop j) out ∧ out.length ≤ j)) ((0, [])) ?_ ?_ ?_
 ·exact enterS [] rfl rfl BxTo_nil (SlTo_cons (by exact .rd .d) (SlTo_cons (by exact .rd .d) (SlTo_cons (by exact .rd (.ptr (srcFree rfl) rfl rfl rfl .d)) SlTo_nil)))
 ·exact ⟨Nat.zero_le _, by simp, by simp⟩
 rintro ⟨j, out⟩ ⟨hj, ⟨hI, ho⟩⟩
 show AC _ _ _ _ _ (FS [] _ [(4, i64 j), (3, .d (.sl .one (strs out))), (1, .d (.rp (Lay.st [.one, .one]) (injD ⟨cs, op⟩) []))]) []
 refine AC_seq fun K5 hK5 => ?_
 refine AC_seq fun K6 hK6 => ?_
 refine AC_region ?_
 refine AL_ev (Ev_move) rfl ?_
 refine AL_ev (Ev_fa_rp rfl fa27_0 rfl rfl) rfl ?_
 refine AL_ev (Ev_load_rp rfl rfl rfl ts24 ta24 rfl (fun _ => rfl)) rfl ?_
 refine AL_lim (x := (Operand.tmp 8)) rfl fun hl1 => ?_
 try simp only [injs_length, ints_length, strs_length, injCs_length, u8s_length, List.length_map] at hl1
 refine AL_ev (Ev_len_injCs te24 rfl) rfl ?_
 refine AL_ev (Ev_lss rfl rfl) rfl ?_
 refine AL_nil ?_
 refine hK6 _ _ _ ?_
 refine AC_cond rfl (fun hc1 => ?_) (fun hc1 => ?_)
 ·have hlt : j < cs.length := by simpa using hc1
  obtain ⟨u, hu⟩ : ∃ x, cs[j]? = some x := ⟨_, List.getElem?_eq_getElem hlt⟩
  have hu2 := injCs_get hu
  have hdr := drop_get hu
  obtain ⟨hbu, _, _⟩ := bulkCs_bd (List.mem_of_getElem? hu) hbc
  rw [hdr, predsF] at hI
  have hol := onceL_len out (predS u.h)
  refine AC_skip ?_
  refine hK5 _ _ _ ?_
  refine AC_seq fun K7 hK7 => ?_
  refine AC_block ?_
  refine AC_region ?_
  refine AL_ev (Ev_move) rfl ?_
  refine AL_ev (Ev_fa_rp rfl fa27_0 rfl rfl) rfl ?_
  refine AL_ev (Ev_load_rp rfl rfl rfl ts24 ta24 rfl (fun _ => rfl)) rfl ?_
  refine AL_ev (Ev_move) rfl ?_
  refine AL_ev (Ev_ix_sl rfl rfl te24 ts54 (by omega) (by assumption)) rfl ?_
  refine AL_ev (Ev_fa_rp rfl fa54_0 rfl rfl) rfl ?_
  refine AL_ev (Ev_load_rp rfl rfl rfl ts41 ta41 (by simp) (by intro h; cases h)) rfl ?_
  refine AL_fcall0 hT rfl cl34 (c_specPredOf u.h (by omega)) rfl rfl ?_
  refine AL_fcall0 hT rfl cl41 (c_l23Add out (predS u.h) (by omega)) rfl rfl ?_
  refine AL_ev (Ev_assign) rfl ?_
  refine AL_nil ?_
  refine hK7 _ _ _ ?_
  refine AC_region ?_
  refine AL_ev (Ev_move) rfl ?_
  refine AL_ev (Ev_add rfl rfl _ (wrap_id (by omega) (by omega))) rfl ?_
  refine AL_ev (Ev_assign) rfl ?_
  refine AL_nil ?_
  refine closeS (j + 1, onceL out (predS u.h)) [] rfl rfl (by show cs.length - (j + 1) < cs.length - j; omega) ⟨hlt, ?_⟩ BxTo_nil (SlTo_cons (by exact .rd .d) (SlTo_cons (by exact .rd .d) (SlTo_cons (by exact .rd .d) SlTo_nil)))
  exact ⟨hI, by omega⟩
 ·have hj2 : j = cs.length := by
   have : ¬ j < cs.length := by simpa using hc1
   omega
  subst hj2
  rw [List.drop_length] at hI
  refine AC_exit ?_
  refine hK3 _ _ _ ?_
  refine AC_seq fun K8 hK8 => ?_
  refine AC_region ?_
  refine AL_ev (Ev_move) rfl ?_
  refine AL_ev (Ev_assign) rfl ?_
  refine AL_nil ?_
  refine hK8 _ _ _ ?_
  refine AC_ret ?_
  refine ret_ok hdm (.tmp rfl rfl .nil) (.cons .d .nil) ?_
  rw [predsF] at hI
  rw [hI]
end Go.Proofs.YtjgliechbnommaaGreatDoor
set_option linter.unusedVariables false
set_option linter.unusedSimpArgs false
namespace Go.Proofs.YtjgliechbnommaaGreatDoor
open Go.Eng
theorem tz25 : tyZero Tryz.prog 25 = some (some (.slice none 0 0)) := by kernel_rfl
theorem cl42 : Callable Tryz.prog 42 := Callable_of Tryz.func42 (by kernel_rfl) (by kernel_rfl)
theorem cl45 : Callable Tryz.prog 45 := Callable_of Tryz.func45 (by kernel_rfl) (by kernel_rfl)
theorem cl63 : Callable Tryz.prog 63 := Callable_of Tryz.func63 (by kernel_rfl) (by kernel_rfl)
theorem cl87 : Callable Tryz.prog 87 := Callable_of Tryz.func87 (by kernel_rfl) (by kernel_rfl)
theorem ta25 : tyAgg Tryz.prog 25 = some false := by kernel_rfl
theorem ts25 : tySize Tryz.prog 25 = some 1 := by kernel_rfl
theorem zo25 : ZeroOf Tryz.prog 25 .one (.d (.c (.slice none 0 0))) := ⟨_, tz25, rfl, fun _ _ _ => VC_cells rfl⟩
set_option maxHeartbeats 1000000 in
set_option maxRecDepth 4000 in
theorem c_control (s : ByteArray) : PCall Tryz.prog 87 [.c (.string s)] (· = [.c (.bool (ctlB s))]) := by
 refine PCall_of (n := 8) Tryz.func87 rfl rfl (Nat.le_of_ble_eq_true rfl) fun C hdm hT0 => ?_
 have hT := hT0
 refine AC_seq fun K1 hK1 => ?_
 refine AC_region ?_
 refine AL_ev (Ev_assign) rfl ?_
 refine AL_nil ?_
 refine hK1 _ _ _ ?_
 refine AC_seq fun K2 hK2 => ?_
 refine AC_region ?_
 refine AL_bD .one rfl te25 ts9 tz9 rfl rfl (by decide) (by decide) (by rfl) rfl ?_
 refine AL_ev (Ev_assign) rfl ?_
 refine AL_nil ?_
 refine hK2 _ _ _ ?_
 refine AC_seq fun K3 hK3 => ?_
 refine AC_region ?_
 refine AL_ev (Ev_move) rfl ?_
 refine AL_ev (Ev_move) rfl ?_
 refine AL_fcall0 hT rfl cl55 (c_containsS ctlL s) rfl rfl ?_
 refine AL_ev (Ev_assign) rfl ?_
 refine AL_nil ?_
 refine hK3 _ _ _ ?_
 refine AC_ret ?_
 exact ret_ok hdm (.tmp rfl rfl .nil) (.cons .d .nil) rfl
set_option maxHeartbeats 1000000 in
set_option maxRecDepth 4000 in
theorem c_specControl (s : ByteArray) : PCall Tryz.prog 98 [.c (.string s)] (· = [.c (.bool (ctlB s))]) := by
 refine PCall_of (n := 32) Tryz.func98 rfl rfl (Nat.le_of_ble_eq_true rfl) fun C hdm hT0 => ?_
 have hT := hT0
 refine AC_seq fun K1 hK1 => ?_
 refine AC_region ?_
 refine AL_ev (Ev_assign) rfl ?_
 refine AL_nil ?_
 refine hK1 _ _ _ ?_
 refine AC_seq fun K2 hK2 => ?_
 refine AC_seq fun K3 hK3 => ?_
 refine AC_region ?_
 refine AL_ev (Ev_move) rfl ?_
 refine AL_nil ?_
 refine hK3 _ _ _ ?_
 refine AC_block ?_
 refine AC_seq fun K4 hK4 => ?_
 refine AC_seq fun K5 hK5 => ?_
 refine AC_region ?_
 refine AL_ev (Ev_seql rfl rfl) rfl ?_
 refine AL_ev (Ev_assign) rfl ?_
 refine AL_nil ?_
 refine hK5 _ _ _ ?_
 refine AC_cond rfl (fun hc1 => ?_) (fun hc1 => ?_)
 ·refine AC_skip ?_
  refine hK4 _ _ _ ?_
  refine AC_cond_t (congrArg bl hc1) ?_
  refine AC_seq fun K6 hK6 => ?_
  refine AC_region ?_
  refine AL_ev (Ev_assign) rfl ?_
  refine AL_nil ?_
  refine hK6 _ _ _ ?_
  refine AC_ret ?_
  refine ret_ok hdm (.tmp rfl rfl .nil) (.cons .d .nil) ?_
  simp only [decide_eq_true_eq, decide_eq_false_iff_not] at *
  first
   | (subst_vars; rfl)
   | (have hcf : ctlB s = false := by
       simp only [ctlB, ctlL, hasS, Bool.or_false, Bool.or_eq_false_iff, decide_eq_false_iff_not]
       and_intros <;> (intro h; subst h; simp_all)
      rw [hcf])
 ·refine AC_seq fun K7 hK7 => ?_
  refine AC_region ?_
  refine AL_ev (Ev_seql rfl rfl) rfl ?_
  refine AL_ev (Ev_assign) rfl ?_
  refine AL_nil ?_
  refine hK7 _ _ _ ?_
  refine AC_cond rfl (fun hc2 => ?_) (fun hc2 => ?_)
  ·refine AC_skip ?_
   refine hK4 _ _ _ ?_
   refine AC_cond_t (congrArg bl hc2) ?_
   refine AC_seq fun K8 hK8 => ?_
   refine AC_region ?_
   refine AL_ev (Ev_assign) rfl ?_
   refine AL_nil ?_
   refine hK8 _ _ _ ?_
   refine AC_ret ?_
   refine ret_ok hdm (.tmp rfl rfl .nil) (.cons .d .nil) ?_
   simp only [decide_eq_true_eq, decide_eq_false_iff_not] at *
   first
    | (subst_vars; rfl)
    | (have hcf : ctlB s = false := by
        simp only [ctlB, ctlL, hasS, Bool.or_false, Bool.or_eq_false_iff, decide_eq_false_iff_not]
        and_intros <;> (intro h; subst h; simp_all)
       rw [hcf])
  ·refine AC_seq fun K9 hK9 => ?_
   refine AC_region ?_
   refine AL_ev (Ev_seql rfl rfl) rfl ?_
   refine AL_ev (Ev_assign) rfl ?_
   refine AL_nil ?_
   refine hK9 _ _ _ ?_
   refine AC_cond rfl (fun hc3 => ?_) (fun hc3 => ?_)
   ·refine AC_skip ?_
    refine hK4 _ _ _ ?_
    refine AC_cond_t (congrArg bl hc3) ?_
    refine AC_seq fun K10 hK10 => ?_
    refine AC_region ?_
    refine AL_ev (Ev_assign) rfl ?_
    refine AL_nil ?_
    refine hK10 _ _ _ ?_
    refine AC_ret ?_
    refine ret_ok hdm (.tmp rfl rfl .nil) (.cons .d .nil) ?_
    simp only [decide_eq_true_eq, decide_eq_false_iff_not] at *
    first
     | (subst_vars; rfl)
     | (have hcf : ctlB s = false := by
         simp only [ctlB, ctlL, hasS, Bool.or_false, Bool.or_eq_false_iff, decide_eq_false_iff_not]
         and_intros <;> (intro h; subst h; simp_all)
        rw [hcf])
   ·refine AC_seq fun K11 hK11 => ?_
    refine AC_region ?_
    refine AL_ev (Ev_seql rfl rfl) rfl ?_
    refine AL_ev (Ev_assign) rfl ?_
    refine AL_nil ?_
    refine hK11 _ _ _ ?_
    refine AC_cond rfl (fun hc4 => ?_) (fun hc4 => ?_)
    ·refine AC_skip ?_
     refine hK4 _ _ _ ?_
     refine AC_cond_t (congrArg bl hc4) ?_
     refine AC_seq fun K12 hK12 => ?_
     refine AC_region ?_
     refine AL_ev (Ev_assign) rfl ?_
     refine AL_nil ?_
     refine hK12 _ _ _ ?_
     refine AC_ret ?_
     refine ret_ok hdm (.tmp rfl rfl .nil) (.cons .d .nil) ?_
     simp only [decide_eq_true_eq, decide_eq_false_iff_not] at *
     first
      | (subst_vars; rfl)
      | (have hcf : ctlB s = false := by
          simp only [ctlB, ctlL, hasS, Bool.or_false, Bool.or_eq_false_iff, decide_eq_false_iff_not]
          and_intros <;> (intro h; subst h; simp_all)
         rw [hcf])
    ·refine AC_seq fun K13 hK13 => ?_
     refine AC_region ?_
     refine AL_ev (Ev_seql rfl rfl) rfl ?_
     refine AL_ev (Ev_assign) rfl ?_
     refine AL_nil ?_
     refine hK13 _ _ _ ?_
     refine AC_cond rfl (fun hc5 => ?_) (fun hc5 => ?_)
     ·refine AC_skip ?_
      refine hK4 _ _ _ ?_
      refine AC_cond_t (congrArg bl hc5) ?_
      refine AC_seq fun K14 hK14 => ?_
      refine AC_region ?_
      refine AL_ev (Ev_assign) rfl ?_
      refine AL_nil ?_
      refine hK14 _ _ _ ?_
      refine AC_ret ?_
      refine ret_ok hdm (.tmp rfl rfl .nil) (.cons .d .nil) ?_
      simp only [decide_eq_true_eq, decide_eq_false_iff_not] at *
      first
       | (subst_vars; rfl)
       | (have hcf : ctlB s = false := by
           simp only [ctlB, ctlL, hasS, Bool.or_false, Bool.or_eq_false_iff, decide_eq_false_iff_not]
           and_intros <;> (intro h; subst h; simp_all)
          rw [hcf])
     ·refine AC_seq fun K15 hK15 => ?_
      refine AC_region ?_
      refine AL_ev (Ev_seql rfl rfl) rfl ?_
      refine AL_ev (Ev_assign) rfl ?_
      refine AL_nil ?_
      refine hK15 _ _ _ ?_
      refine AC_cond rfl (fun hc6 => ?_) (fun hc6 => ?_)
      ·refine AC_skip ?_
       refine hK4 _ _ _ ?_
       refine AC_cond_t (congrArg bl hc6) ?_
       refine AC_seq fun K16 hK16 => ?_
       refine AC_region ?_
       refine AL_ev (Ev_assign) rfl ?_
       refine AL_nil ?_
       refine hK16 _ _ _ ?_
       refine AC_ret ?_
       refine ret_ok hdm (.tmp rfl rfl .nil) (.cons .d .nil) ?_
       simp only [decide_eq_true_eq, decide_eq_false_iff_not] at *
       first
        | (subst_vars; rfl)
        | (have hcf : ctlB s = false := by
            simp only [ctlB, ctlL, hasS, Bool.or_false, Bool.or_eq_false_iff, decide_eq_false_iff_not]
            and_intros <;> (intro h; subst h; simp_all)
           rw [hcf])
      ·refine AC_seq fun K17 hK17 => ?_
       refine AC_region ?_
       refine AL_ev (Ev_seql rfl rfl) rfl ?_
       refine AL_ev (Ev_assign) rfl ?_
       refine AL_nil ?_
       refine hK17 _ _ _ ?_
       refine AC_cond rfl (fun hc7 => ?_) (fun hc7 => ?_)
       ·refine AC_skip ?_
        refine hK4 _ _ _ ?_
        refine AC_cond_t (congrArg bl hc7) ?_
        refine AC_seq fun K18 hK18 => ?_
        refine AC_region ?_
        refine AL_ev (Ev_assign) rfl ?_
        refine AL_nil ?_
        refine hK18 _ _ _ ?_
        refine AC_ret ?_
        refine ret_ok hdm (.tmp rfl rfl .nil) (.cons .d .nil) ?_
        simp only [decide_eq_true_eq, decide_eq_false_iff_not] at *
        first
         | (subst_vars; rfl)
         | (have hcf : ctlB s = false := by
             simp only [ctlB, ctlL, hasS, Bool.or_false, Bool.or_eq_false_iff, decide_eq_false_iff_not]
             and_intros <;> (intro h; subst h; simp_all)
            rw [hcf])
       ·refine AC_seq fun K19 hK19 => ?_
        refine AC_region ?_
        refine AL_ev (Ev_seql rfl rfl) rfl ?_
        refine AL_ev (Ev_assign) rfl ?_
        refine AL_nil ?_
        refine hK19 _ _ _ ?_
        refine AC_cond rfl (fun hc8 => ?_) (fun hc8 => ?_)
        ·refine AC_skip ?_
         refine hK4 _ _ _ ?_
         refine AC_cond_t (congrArg bl hc8) ?_
         refine AC_seq fun K20 hK20 => ?_
         refine AC_region ?_
         refine AL_ev (Ev_assign) rfl ?_
         refine AL_nil ?_
         refine hK20 _ _ _ ?_
         refine AC_ret ?_
         refine ret_ok hdm (.tmp rfl rfl .nil) (.cons .d .nil) ?_
         simp only [decide_eq_true_eq, decide_eq_false_iff_not] at *
         first
          | (subst_vars; rfl)
          | (have hcf : ctlB s = false := by
              simp only [ctlB, ctlL, hasS, Bool.or_false, Bool.or_eq_false_iff, decide_eq_false_iff_not]
              and_intros <;> (intro h; subst h; simp_all)
             rw [hcf])
        ·refine AC_seq fun K21 hK21 => ?_
         refine AC_region ?_
         refine AL_ev (Ev_seql rfl rfl) rfl ?_
         refine AL_ev (Ev_assign) rfl ?_
         refine AL_nil ?_
         refine hK21 _ _ _ ?_
         refine AC_cond rfl (fun hc9 => ?_) (fun hc9 => ?_)
         ·refine AC_skip ?_
          refine hK4 _ _ _ ?_
          refine AC_cond_t (congrArg bl hc9) ?_
          refine AC_seq fun K22 hK22 => ?_
          refine AC_region ?_
          refine AL_ev (Ev_assign) rfl ?_
          refine AL_nil ?_
          refine hK22 _ _ _ ?_
          refine AC_ret ?_
          refine ret_ok hdm (.tmp rfl rfl .nil) (.cons .d .nil) ?_
          simp only [decide_eq_true_eq, decide_eq_false_iff_not] at *
          first
           | (subst_vars; rfl)
           | (have hcf : ctlB s = false := by
               simp only [ctlB, ctlL, hasS, Bool.or_false, Bool.or_eq_false_iff, decide_eq_false_iff_not]
               and_intros <;> (intro h; subst h; simp_all)
              rw [hcf])
         ·refine AC_seq fun K23 hK23 => ?_
          refine AC_region ?_
          refine AL_ev (Ev_seql rfl rfl) rfl ?_
          refine AL_ev (Ev_assign) rfl ?_
          refine AL_nil ?_
          refine hK23 _ _ _ ?_
          refine AC_cond rfl (fun hc10 => ?_) (fun hc10 => ?_)
          ·refine AC_skip ?_
           refine hK4 _ _ _ ?_
           refine AC_cond_t (congrArg bl hc10) ?_
           refine AC_seq fun K24 hK24 => ?_
           refine AC_region ?_
           refine AL_ev (Ev_assign) rfl ?_
           refine AL_nil ?_
           refine hK24 _ _ _ ?_
           refine AC_ret ?_
           refine ret_ok hdm (.tmp rfl rfl .nil) (.cons .d .nil) ?_
           simp only [decide_eq_true_eq, decide_eq_false_iff_not] at *
           first
            | (subst_vars; rfl)
            | (have hcf : ctlB s = false := by
                simp only [ctlB, ctlL, hasS, Bool.or_false, Bool.or_eq_false_iff, decide_eq_false_iff_not]
                and_intros <;> (intro h; subst h; simp_all)
               rw [hcf])
          ·refine AC_seq fun K25 hK25 => ?_
           refine AC_region ?_
           refine AL_ev (Ev_seql rfl rfl) rfl ?_
           refine AL_ev (Ev_assign) rfl ?_
           refine AL_nil ?_
           refine hK25 _ _ _ ?_
           refine AC_cond rfl (fun hc11 => ?_) (fun hc11 => ?_)
           ·refine AC_skip ?_
            refine hK4 _ _ _ ?_
            refine AC_cond_t (congrArg bl hc11) ?_
            refine AC_seq fun K26 hK26 => ?_
            refine AC_region ?_
            refine AL_ev (Ev_assign) rfl ?_
            refine AL_nil ?_
            refine hK26 _ _ _ ?_
            refine AC_ret ?_
            refine ret_ok hdm (.tmp rfl rfl .nil) (.cons .d .nil) ?_
            simp only [decide_eq_true_eq, decide_eq_false_iff_not] at *
            first
             | (subst_vars; rfl)
             | (have hcf : ctlB s = false := by
                 simp only [ctlB, ctlL, hasS, Bool.or_false, Bool.or_eq_false_iff, decide_eq_false_iff_not]
                 and_intros <;> (intro h; subst h; simp_all)
                rw [hcf])
           ·refine AC_region ?_
            refine AL_ev (Ev_seql rfl rfl) rfl ?_
            refine AL_ev (Ev_assign) rfl ?_
            refine AL_nil ?_
            refine hK4 _ _ _ ?_
            refine AC_cond rfl (fun hc12 => ?_) (fun hc12 => ?_)
            ·refine AC_seq fun K27 hK27 => ?_
             refine AC_region ?_
             refine AL_ev (Ev_assign) rfl ?_
             refine AL_nil ?_
             refine hK27 _ _ _ ?_
             refine AC_ret ?_
             refine ret_ok hdm (.tmp rfl rfl .nil) (.cons .d .nil) ?_
             simp only [decide_eq_true_eq, decide_eq_false_iff_not] at *
             first
              | (subst_vars; rfl)
              | (have hcf : ctlB s = false := by
                  simp only [ctlB, ctlL, hasS, Bool.or_false, Bool.or_eq_false_iff, decide_eq_false_iff_not]
                  and_intros <;> (intro h; subst h; simp_all)
                 rw [hcf])
            ·refine AC_seq fun K28 hK28 => ?_
             refine AC_seq fun K29 hK29 => ?_
             refine AC_region ?_
             refine AL_ev (Ev_seql rfl rfl) rfl ?_
             refine AL_ev (Ev_assign) rfl ?_
             refine AL_nil ?_
             refine hK29 _ _ _ ?_
             refine AC_cond rfl (fun hc13 => ?_) (fun hc13 => ?_)
             ·refine AC_skip ?_
              refine hK28 _ _ _ ?_
              refine AC_cond_t (congrArg bl hc13) ?_
              refine AC_seq fun K30 hK30 => ?_
              refine AC_region ?_
              refine AL_ev (Ev_assign) rfl ?_
              refine AL_nil ?_
              refine hK30 _ _ _ ?_
              refine AC_ret ?_
              refine ret_ok hdm (.tmp rfl rfl .nil) (.cons .d .nil) ?_
              simp only [decide_eq_true_eq, decide_eq_false_iff_not] at *
              first
               | (subst_vars; rfl)
               | (have hcf : ctlB s = false := by
                   simp only [ctlB, ctlL, hasS, Bool.or_false, Bool.or_eq_false_iff, decide_eq_false_iff_not]
                   and_intros <;> (intro h; subst h; simp_all)
                  rw [hcf])
             ·refine AC_seq fun K31 hK31 => ?_
              refine AC_region ?_
              refine AL_ev (Ev_seql rfl rfl) rfl ?_
              refine AL_ev (Ev_assign) rfl ?_
              refine AL_nil ?_
              refine hK31 _ _ _ ?_
              refine AC_cond rfl (fun hc14 => ?_) (fun hc14 => ?_)
              ·refine AC_skip ?_
               refine hK28 _ _ _ ?_
               refine AC_cond_t (congrArg bl hc14) ?_
               refine AC_seq fun K32 hK32 => ?_
               refine AC_region ?_
               refine AL_ev (Ev_assign) rfl ?_
               refine AL_nil ?_
               refine hK32 _ _ _ ?_
               refine AC_ret ?_
               refine ret_ok hdm (.tmp rfl rfl .nil) (.cons .d .nil) ?_
               simp only [decide_eq_true_eq, decide_eq_false_iff_not] at *
               first
                | (subst_vars; rfl)
                | (have hcf : ctlB s = false := by
                    simp only [ctlB, ctlL, hasS, Bool.or_false, Bool.or_eq_false_iff, decide_eq_false_iff_not]
                    and_intros <;> (intro h; subst h; simp_all)
                   rw [hcf])
              ·refine AC_seq fun K33 hK33 => ?_
               refine AC_region ?_
               refine AL_ev (Ev_seql rfl rfl) rfl ?_
               refine AL_ev (Ev_assign) rfl ?_
               refine AL_nil ?_
               refine hK33 _ _ _ ?_
               refine AC_cond rfl (fun hc15 => ?_) (fun hc15 => ?_)
               ·refine AC_skip ?_
                refine hK28 _ _ _ ?_
                refine AC_cond_t (congrArg bl hc15) ?_
                refine AC_seq fun K34 hK34 => ?_
                refine AC_region ?_
                refine AL_ev (Ev_assign) rfl ?_
                refine AL_nil ?_
                refine hK34 _ _ _ ?_
                refine AC_ret ?_
                refine ret_ok hdm (.tmp rfl rfl .nil) (.cons .d .nil) ?_
                simp only [decide_eq_true_eq, decide_eq_false_iff_not] at *
                first
                 | (subst_vars; rfl)
                 | (have hcf : ctlB s = false := by
                     simp only [ctlB, ctlL, hasS, Bool.or_false, Bool.or_eq_false_iff, decide_eq_false_iff_not]
                     and_intros <;> (intro h; subst h; simp_all)
                    rw [hcf])
               ·refine AC_seq fun K35 hK35 => ?_
                refine AC_region ?_
                refine AL_ev (Ev_seql rfl rfl) rfl ?_
                refine AL_ev (Ev_assign) rfl ?_
                refine AL_nil ?_
                refine hK35 _ _ _ ?_
                refine AC_cond rfl (fun hc16 => ?_) (fun hc16 => ?_)
                ·refine AC_skip ?_
                 refine hK28 _ _ _ ?_
                 refine AC_cond_t (congrArg bl hc16) ?_
                 refine AC_seq fun K36 hK36 => ?_
                 refine AC_region ?_
                 refine AL_ev (Ev_assign) rfl ?_
                 refine AL_nil ?_
                 refine hK36 _ _ _ ?_
                 refine AC_ret ?_
                 refine ret_ok hdm (.tmp rfl rfl .nil) (.cons .d .nil) ?_
                 simp only [decide_eq_true_eq, decide_eq_false_iff_not] at *
                 first
                  | (subst_vars; rfl)
                  | (have hcf : ctlB s = false := by
                      simp only [ctlB, ctlL, hasS, Bool.or_false, Bool.or_eq_false_iff, decide_eq_false_iff_not]
                      and_intros <;> (intro h; subst h; simp_all)
                     rw [hcf])
                ·refine AC_seq fun K37 hK37 => ?_
                 refine AC_region ?_
                 refine AL_ev (Ev_seql rfl rfl) rfl ?_
                 refine AL_ev (Ev_assign) rfl ?_
                 refine AL_nil ?_
                 refine hK37 _ _ _ ?_
                 refine AC_cond rfl (fun hc17 => ?_) (fun hc17 => ?_)
                 ·refine AC_skip ?_
                  refine hK28 _ _ _ ?_
                  refine AC_cond_t (congrArg bl hc17) ?_
                  refine AC_seq fun K38 hK38 => ?_
                  refine AC_region ?_
                  refine AL_ev (Ev_assign) rfl ?_
                  refine AL_nil ?_
                  refine hK38 _ _ _ ?_
                  refine AC_ret ?_
                  refine ret_ok hdm (.tmp rfl rfl .nil) (.cons .d .nil) ?_
                  simp only [decide_eq_true_eq, decide_eq_false_iff_not] at *
                  first
                   | (subst_vars; rfl)
                   | (have hcf : ctlB s = false := by
                       simp only [ctlB, ctlL, hasS, Bool.or_false, Bool.or_eq_false_iff, decide_eq_false_iff_not]
                       and_intros <;> (intro h; subst h; simp_all)
                      rw [hcf])
                 ·refine AC_seq fun K39 hK39 => ?_
                  refine AC_region ?_
                  refine AL_ev (Ev_seql rfl rfl) rfl ?_
                  refine AL_ev (Ev_assign) rfl ?_
                  refine AL_nil ?_
                  refine hK39 _ _ _ ?_
                  refine AC_cond rfl (fun hc18 => ?_) (fun hc18 => ?_)
                  ·refine AC_skip ?_
                   refine hK28 _ _ _ ?_
                   refine AC_cond_t (congrArg bl hc18) ?_
                   refine AC_seq fun K40 hK40 => ?_
                   refine AC_region ?_
                   refine AL_ev (Ev_assign) rfl ?_
                   refine AL_nil ?_
                   refine hK40 _ _ _ ?_
                   refine AC_ret ?_
                   refine ret_ok hdm (.tmp rfl rfl .nil) (.cons .d .nil) ?_
                   simp only [decide_eq_true_eq, decide_eq_false_iff_not] at *
                   first
                    | (subst_vars; rfl)
                    | (have hcf : ctlB s = false := by
                        simp only [ctlB, ctlL, hasS, Bool.or_false, Bool.or_eq_false_iff, decide_eq_false_iff_not]
                        and_intros <;> (intro h; subst h; simp_all)
                       rw [hcf])
                  ·refine AC_seq fun K41 hK41 => ?_
                   refine AC_region ?_
                   refine AL_ev (Ev_seql rfl rfl) rfl ?_
                   refine AL_ev (Ev_assign) rfl ?_
                   refine AL_nil ?_
                   refine hK41 _ _ _ ?_
                   refine AC_cond rfl (fun hc19 => ?_) (fun hc19 => ?_)
                   ·refine AC_skip ?_
                    refine hK28 _ _ _ ?_
                    refine AC_cond_t (congrArg bl hc19) ?_
                    refine AC_seq fun K42 hK42 => ?_
                    refine AC_region ?_
                    refine AL_ev (Ev_assign) rfl ?_
                    refine AL_nil ?_
                    refine hK42 _ _ _ ?_
                    refine AC_ret ?_
                    refine ret_ok hdm (.tmp rfl rfl .nil) (.cons .d .nil) ?_
                    simp only [decide_eq_true_eq, decide_eq_false_iff_not] at *
                    first
                     | (subst_vars; rfl)
                     | (have hcf : ctlB s = false := by
                         simp only [ctlB, ctlL, hasS, Bool.or_false, Bool.or_eq_false_iff, decide_eq_false_iff_not]
                         and_intros <;> (intro h; subst h; simp_all)
                        rw [hcf])
                   ·refine AC_seq fun K43 hK43 => ?_
                    refine AC_region ?_
                    refine AL_ev (Ev_seql rfl rfl) rfl ?_
                    refine AL_ev (Ev_assign) rfl ?_
                    refine AL_nil ?_
                    refine hK43 _ _ _ ?_
                    refine AC_cond rfl (fun hc20 => ?_) (fun hc20 => ?_)
                    ·refine AC_skip ?_
                     refine hK28 _ _ _ ?_
                     refine AC_cond_t (congrArg bl hc20) ?_
                     refine AC_seq fun K44 hK44 => ?_
                     refine AC_region ?_
                     refine AL_ev (Ev_assign) rfl ?_
                     refine AL_nil ?_
                     refine hK44 _ _ _ ?_
                     refine AC_ret ?_
                     refine ret_ok hdm (.tmp rfl rfl .nil) (.cons .d .nil) ?_
                     simp only [decide_eq_true_eq, decide_eq_false_iff_not] at *
                     first
                      | (subst_vars; rfl)
                      | (have hcf : ctlB s = false := by
                          simp only [ctlB, ctlL, hasS, Bool.or_false, Bool.or_eq_false_iff, decide_eq_false_iff_not]
                          and_intros <;> (intro h; subst h; simp_all)
                         rw [hcf])
                    ·refine AC_seq fun K45 hK45 => ?_
                     refine AC_region ?_
                     refine AL_ev (Ev_seql rfl rfl) rfl ?_
                     refine AL_ev (Ev_assign) rfl ?_
                     refine AL_nil ?_
                     refine hK45 _ _ _ ?_
                     refine AC_cond rfl (fun hc21 => ?_) (fun hc21 => ?_)
                     ·refine AC_skip ?_
                      refine hK28 _ _ _ ?_
                      refine AC_cond_t (congrArg bl hc21) ?_
                      refine AC_seq fun K46 hK46 => ?_
                      refine AC_region ?_
                      refine AL_ev (Ev_assign) rfl ?_
                      refine AL_nil ?_
                      refine hK46 _ _ _ ?_
                      refine AC_ret ?_
                      refine ret_ok hdm (.tmp rfl rfl .nil) (.cons .d .nil) ?_
                      simp only [decide_eq_true_eq, decide_eq_false_iff_not] at *
                      first
                       | (subst_vars; rfl)
                       | (have hcf : ctlB s = false := by
                           simp only [ctlB, ctlL, hasS, Bool.or_false, Bool.or_eq_false_iff, decide_eq_false_iff_not]
                           and_intros <;> (intro h; subst h; simp_all)
                          rw [hcf])
                     ·refine AC_seq fun K47 hK47 => ?_
                      refine AC_region ?_
                      refine AL_ev (Ev_seql rfl rfl) rfl ?_
                      refine AL_ev (Ev_assign) rfl ?_
                      refine AL_nil ?_
                      refine hK47 _ _ _ ?_
                      refine AC_cond rfl (fun hc22 => ?_) (fun hc22 => ?_)
                      ·refine AC_skip ?_
                       refine hK28 _ _ _ ?_
                       refine AC_cond_t (congrArg bl hc22) ?_
                       refine AC_seq fun K48 hK48 => ?_
                       refine AC_region ?_
                       refine AL_ev (Ev_assign) rfl ?_
                       refine AL_nil ?_
                       refine hK48 _ _ _ ?_
                       refine AC_ret ?_
                       refine ret_ok hdm (.tmp rfl rfl .nil) (.cons .d .nil) ?_
                       simp only [decide_eq_true_eq, decide_eq_false_iff_not] at *
                       first
                        | (subst_vars; rfl)
                        | (have hcf : ctlB s = false := by
                            simp only [ctlB, ctlL, hasS, Bool.or_false, Bool.or_eq_false_iff, decide_eq_false_iff_not]
                            and_intros <;> (intro h; subst h; simp_all)
                           rw [hcf])
                      ·refine AC_seq fun K49 hK49 => ?_
                       refine AC_region ?_
                       refine AL_ev (Ev_seql rfl rfl) rfl ?_
                       refine AL_ev (Ev_assign) rfl ?_
                       refine AL_nil ?_
                       refine hK49 _ _ _ ?_
                       refine AC_cond rfl (fun hc23 => ?_) (fun hc23 => ?_)
                       ·refine AC_skip ?_
                        refine hK28 _ _ _ ?_
                        refine AC_cond_t (congrArg bl hc23) ?_
                        refine AC_seq fun K50 hK50 => ?_
                        refine AC_region ?_
                        refine AL_ev (Ev_assign) rfl ?_
                        refine AL_nil ?_
                        refine hK50 _ _ _ ?_
                        refine AC_ret ?_
                        refine ret_ok hdm (.tmp rfl rfl .nil) (.cons .d .nil) ?_
                        simp only [decide_eq_true_eq, decide_eq_false_iff_not] at *
                        first
                         | (subst_vars; rfl)
                         | (have hcf : ctlB s = false := by
                             simp only [ctlB, ctlL, hasS, Bool.or_false, Bool.or_eq_false_iff, decide_eq_false_iff_not]
                             and_intros <;> (intro h; subst h; simp_all)
                            rw [hcf])
                       ·refine AC_seq fun K51 hK51 => ?_
                        refine AC_region ?_
                        refine AL_ev (Ev_seql rfl rfl) rfl ?_
                        refine AL_ev (Ev_assign) rfl ?_
                        refine AL_nil ?_
                        refine hK51 _ _ _ ?_
                        refine AC_cond rfl (fun hc24 => ?_) (fun hc24 => ?_)
                        ·refine AC_skip ?_
                         refine hK28 _ _ _ ?_
                         refine AC_cond_t (congrArg bl hc24) ?_
                         refine AC_seq fun K52 hK52 => ?_
                         refine AC_region ?_
                         refine AL_ev (Ev_assign) rfl ?_
                         refine AL_nil ?_
                         refine hK52 _ _ _ ?_
                         refine AC_ret ?_
                         refine ret_ok hdm (.tmp rfl rfl .nil) (.cons .d .nil) ?_
                         simp only [decide_eq_true_eq, decide_eq_false_iff_not] at *
                         first
                          | (subst_vars; rfl)
                          | (have hcf : ctlB s = false := by
                              simp only [ctlB, ctlL, hasS, Bool.or_false, Bool.or_eq_false_iff, decide_eq_false_iff_not]
                              and_intros <;> (intro h; subst h; simp_all)
                             rw [hcf])
                        ·refine AC_seq fun K53 hK53 => ?_
                         refine AC_region ?_
                         refine AL_ev (Ev_seql rfl rfl) rfl ?_
                         refine AL_ev (Ev_assign) rfl ?_
                         refine AL_nil ?_
                         refine hK53 _ _ _ ?_
                         refine AC_cond rfl (fun hc25 => ?_) (fun hc25 => ?_)
                         ·refine AC_skip ?_
                          refine hK28 _ _ _ ?_
                          refine AC_cond_t (congrArg bl hc25) ?_
                          refine AC_seq fun K54 hK54 => ?_
                          refine AC_region ?_
                          refine AL_ev (Ev_assign) rfl ?_
                          refine AL_nil ?_
                          refine hK54 _ _ _ ?_
                          refine AC_ret ?_
                          refine ret_ok hdm (.tmp rfl rfl .nil) (.cons .d .nil) ?_
                          simp only [decide_eq_true_eq, decide_eq_false_iff_not] at *
                          first
                           | (subst_vars; rfl)
                           | (have hcf : ctlB s = false := by
                               simp only [ctlB, ctlL, hasS, Bool.or_false, Bool.or_eq_false_iff, decide_eq_false_iff_not]
                               and_intros <;> (intro h; subst h; simp_all)
                              rw [hcf])
                         ·refine AC_region ?_
                          refine AL_ev (Ev_seql rfl rfl) rfl ?_
                          refine AL_ev (Ev_assign) rfl ?_
                          refine AL_nil ?_
                          refine hK28 _ _ _ ?_
                          refine AC_cond rfl (fun hc26 => ?_) (fun hc26 => ?_)
                          ·refine AC_seq fun K55 hK55 => ?_
                           refine AC_region ?_
                           refine AL_ev (Ev_assign) rfl ?_
                           refine AL_nil ?_
                           refine hK55 _ _ _ ?_
                           refine AC_ret ?_
                           refine ret_ok hdm (.tmp rfl rfl .nil) (.cons .d .nil) ?_
                           simp only [decide_eq_true_eq, decide_eq_false_iff_not] at *
                           first
                            | (subst_vars; rfl)
                            | (have hcf : ctlB s = false := by
                                simp only [ctlB, ctlL, hasS, Bool.or_false, Bool.or_eq_false_iff, decide_eq_false_iff_not]
                                and_intros <;> (intro h; subst h; simp_all)
                               rw [hcf])
                          ·refine AC_skip ?_
                           refine hK2 _ _ _ ?_
                           refine AC_seq fun K56 hK56 => ?_
                           refine AC_region ?_
                           refine AL_ev (Ev_assign) rfl ?_
                           refine AL_nil ?_
                           refine hK56 _ _ _ ?_
                           refine AC_ret ?_
                           refine ret_ok hdm (.tmp rfl rfl .nil) (.cons .d .nil) ?_
                           simp only [decide_eq_true_eq, decide_eq_false_iff_not] at *
                           first
                            | (subst_vars; rfl)
                            | (have hcf : ctlB s = false := by
                                simp only [ctlB, ctlL, hasS, Bool.or_false, Bool.or_eq_false_iff, decide_eq_false_iff_not]
                                and_intros <;> (intro h; subst h; simp_all)
                               rw [hcf])
set_option maxHeartbeats 1000000 in
set_option maxRecDepth 4000 in
theorem c_callsIn1 (b0 c0 : Nat) (s : ByteArray) (neg : Bool) (xs : List ByteArray) (hl : (xs.length : Int) + 1 ≤ 1099511627776) : FCall Tryz.prog 63 (Jl 25 9 b0 c0) [.c (.string s), .c (.bool neg), .c (.pointer (some ⟨b0, 0, none⟩))] (xs) (stepO xs s neg) := by
 refine FCall_of (n := 8) Tryz.func63 rfl rfl (Nat.le_of_ble_eq_true rfl) fun C0 F hdm hT hJ => ?_
 have hM := Mk.refl C0 F
 have hS : ∀ b ∈ F, b ∈ F ∨ C0.w0.heap.size ≤ b := fun b hb => .inl hb
 obtain ⟨⟨o, A, cur, hp0, hp1, hp2, hp3, hcur, hlb, hne, rfl⟩, hjd, hjs⟩ := hJ
 have hB : Blk C0 b0 cur.toList 25 := ⟨hp0, hjd b0 (by simp), hjs b0 (by simp)⟩
 have hsc := hlb.scalar
 have hcur : cur.toList[0]? = some A := by simpa using hcur
 have hL : LBh C0 9 (strs xs) A o := ⟨hlb, fun b c ho => hjd b (by subst ho; simp [blkO]), fun b c ho => hjs b (by subst ho; simp [blkO])⟩
 refine AC_region ?_
 refine AL_ev (Ev_load_raw rfl hB hcur ts25 ta25 (by assumption)) rfl ?_
 refine AL_ev (Ev_move) rfl ?_
 refine AL_lcall hT [] (pre := []) (suf := [.c (.string s)]) rfl cl52 rfl rfl rfl rfl (c_once xs s (by omega)) hL rfl fun C1 A1 o1 hm1 hL1 hs1 hT => ?_
 have hlt0 := hB.lt
 have hB := hB.marked hm1 (fun h => by obtain ⟨c, h⟩ := blkO_mem.1 h; exact hne c h)
 have hsc1 := hL1.lb.scalar
 refine AL_rstore rfl rfl hB (by rw [Array.length_toList]; omega) ts25 (by assumption) rfl fun D1 hk1 hb1 => ?_
 obtain ⟨hM2, hJ2, hS2⟩ := Jl_step hlt0 hne hm1 hL1 hs1 hk1 hb1 (by rw [Array.length_toList]; omega) hp2 hp3
 refine AL_nil ?_
 exact jend2 rfl hM2 hdm rfl hJ2 hS2 rfl
set_option maxHeartbeats 1000000 in
set_option maxRecDepth 4000 in
theorem c_eachCall {A : Type} (J : Jx A) (kk : FuncId) (xs : List Value) (hxs : xs.all Value.scalar = true) (hcl : Callable Tryz.prog kk) (step : A → ByteArray → Bool → A) (μ : A → Int) (hμ : ∀ a s n, μ (step a s n) ≤ μ a + 1) (hf : ∀ s n a, μ a + 1 ≤ 1099511627776 → FCall Tryz.prog kk J ([.c (.string s), .c (.bool n)] ++ xs.map D.c) a (step a s n)) (t : T) : ∀ (neg : Bool) (a : A), bulk t ≤ 1099511627776 → μ a + sz t ≤ 1099511627776 → FCall Tryz.prog 45 (J) [inj t, .c (.bool neg), .c (.func (.func kk) #[] xs.toArray)] (a) (eachF step t neg a) := by
 induction t using T.ind with | h k s m ks ih => ?_
 intro neg a hb hl
 refine FCall_of (n := 72) Tryz.func45 rfl rfl (Nat.le_of_ble_eq_true rfl) fun C0 F hdm hT hJ => ?_
 have hM := Mk.refl C0 F
 have hS : ∀ b ∈ F, b ∈ F ∨ C0.w0.heap.size ≤ b := fun b hb => .inl hb
 refine AC_seq fun K1 hK1 => ?_
 refine AC_region ?_
 refine AL_box (Lay.st [.one, .one, .one, .one]) (nf rfl) rfl (by rfl) _ rfl rfl ?_
 refine AL_nil ?_
 refine hK1 _ _ _ ?_
 refine AC_seq fun K2 hK2 => ?_
 refine AC_region ?_
 refine AL_ev (Ev_load_ptr rfl rfl rfl rfl rfl rfl ts41 ta41 (by rfl) (by intro h; cases h)) rfl ?_
 refine AL_fcall0 hT rfl cl44 (c_predOf _ hb) rfl rfl ?_
 refine AL_ev (Ev_assign) rfl ?_
 refine AL_nil ?_
 refine hK2 _ _ _ ?_
 refine AC_seq fun K3 hK3 => ?_
 refine AC_region ?_
 refine AL_ev (Ev_move) rfl ?_
 refine AL_nil ?_
 refine hK3 _ _ _ ?_
 refine AC_block ?_
 refine AC_seq fun K4 hK4 => ?_
 refine AC_seq fun K5 hK5 => ?_
 refine AC_region ?_
 refine AL_ev (Ev_seql rfl rfl) rfl ?_
 refine AL_ev (Ev_assign) rfl ?_
 refine AL_nil ?_
 refine hK5 _ _ _ ?_
 refine AC_cond rfl (fun hc1 => ?_) (fun hc1 => ?_)
 ·have hp0 := of_decide_eq_true hc1
  obtain ⟨x, y, rfl⟩ := len2 (show ks.length = 2 from predS_kids [44] 2 (by omega) rfl hp0)
  have hp : predS (.mk k s m [x, y]) = cComma ∨ predS (.mk k s m [x, y]) = cSemi ∨ predS (.mk k s m [x, y]) = cArrow := .inl hp0
  have hu0 : (injs [x, y])[(0 : Int).toNat]? = some (inj x) := rfl
  have hu1 : (injs [x, y])[(1 : Int).toNat]? = some (inj y) := rfl
  simp only [sz, szs] at hl
  have hle := eachF_le hμ x neg a
  refine AC_skip ?_
  refine hK4 _ _ _ ?_
  refine AC_cond_t (congrArg bl hc1) ?_
  refine AC_seq fun K6 hK6 => ?_
  refine AC_region ?_
  refine AL_ev (Ev_fa_ptr rfl fa41_3 rfl rfl) rfl ?_
  refine AL_ev (Ev_load_ptr rfl rfl rfl rfl rfl rfl ts39 ta39 rfl (fun _ => rfl)) rfl ?_
  refine AL_ev (Ev_ix_sl rfl rfl te39 ts41 (by omega) (by assumption)) rfl ?_
  refine AL_ev (Ev_load_rp rfl rfl rfl ts41 ta41 (by simp) (by intro h; cases h)) rfl ?_
  refine AL_ev (Ev_move) rfl ?_
  refine AL_ev (Ev_move) rfl ?_
  refine AL_jcall hT (ds := [inj x, .c (.bool neg), .c (.func (.func kk) #[] xs.toArray)]) (.plain rfl) rfl cl45 rfl (ih x (by simp) neg (a) (bulk_mem hb x (by simp)) (by omega)) hJ rfl fun C1 F1 hm1 hJ hs1 hT => ?_
  obtain ⟨hM, hS⟩ := jstep hM hS hm1 hs1
  clear hm1 hs1
  refine AL_nil ?_
  refine hK6 _ _ _ ?_
  refine AC_region ?_
  refine AL_ev (Ev_fa_ptr rfl fa41_3 rfl rfl) rfl ?_
  refine AL_ev (Ev_load_ptr rfl rfl rfl rfl rfl rfl ts39 ta39 rfl (fun _ => rfl)) rfl ?_
  refine AL_ev (Ev_ix_sl rfl rfl te39 ts41 (by omega) (by assumption)) rfl ?_
  refine AL_ev (Ev_load_rp rfl rfl rfl ts41 ta41 (by simp) (by intro h; cases h)) rfl ?_
  refine AL_ev (Ev_move) rfl ?_
  refine AL_ev (Ev_move) rfl ?_
  refine AL_jcall hT (ds := [inj y, .c (.bool neg), .c (.func (.func kk) #[] xs.toArray)]) (.plain rfl) rfl cl45 rfl (ih y (by simp) neg (eachF step x neg a) (bulk_mem hb y (by simp)) (by omega)) hJ rfl fun C1 F1 hm1 hJ hs1 hT => ?_
  obtain ⟨hM, hS⟩ := jstep hM hS hm1 hs1
  clear hm1 hs1
  refine AL_nil ?_
  refine jend2 rfl hM hdm rfl hJ hS ?_
  exact eachF_two hp
 ·refine AC_seq fun K7 hK7 => ?_
  refine AC_region ?_
  refine AL_ev (Ev_seql rfl rfl) rfl ?_
  refine AL_ev (Ev_assign) rfl ?_
  refine AL_nil ?_
  refine hK7 _ _ _ ?_
  refine AC_cond rfl (fun hc2 => ?_) (fun hc2 => ?_)
  ·have hp0 := of_decide_eq_true hc2
   obtain ⟨x, y, rfl⟩ := len2 (show ks.length = 2 from predS_kids [59] 2 (by omega) rfl hp0)
   have hp : predS (.mk k s m [x, y]) = cComma ∨ predS (.mk k s m [x, y]) = cSemi ∨ predS (.mk k s m [x, y]) = cArrow := .inr (.inl hp0)
   have hu0 : (injs [x, y])[(0 : Int).toNat]? = some (inj x) := rfl
   have hu1 : (injs [x, y])[(1 : Int).toNat]? = some (inj y) := rfl
   simp only [sz, szs] at hl
   have hle := eachF_le hμ x neg a
   refine AC_skip ?_
   refine hK4 _ _ _ ?_
   refine AC_cond_t (congrArg bl hc2) ?_
   refine AC_seq fun K8 hK8 => ?_
   refine AC_region ?_
   refine AL_ev (Ev_fa_ptr rfl fa41_3 rfl rfl) rfl ?_
   refine AL_ev (Ev_load_ptr rfl rfl rfl rfl rfl rfl ts39 ta39 rfl (fun _ => rfl)) rfl ?_
   refine AL_ev (Ev_ix_sl rfl rfl te39 ts41 (by omega) (by assumption)) rfl ?_
   refine AL_ev (Ev_load_rp rfl rfl rfl ts41 ta41 (by simp) (by intro h; cases h)) rfl ?_
   refine AL_ev (Ev_move) rfl ?_
   refine AL_ev (Ev_move) rfl ?_
   refine AL_jcall hT (ds := [inj x, .c (.bool neg), .c (.func (.func kk) #[] xs.toArray)]) (.plain rfl) rfl cl45 rfl (ih x (by simp) neg (a) (bulk_mem hb x (by simp)) (by omega)) hJ rfl fun C1 F1 hm1 hJ hs1 hT => ?_
   obtain ⟨hM, hS⟩ := jstep hM hS hm1 hs1
   clear hm1 hs1
   refine AL_nil ?_
   refine hK8 _ _ _ ?_
   refine AC_region ?_
   refine AL_ev (Ev_fa_ptr rfl fa41_3 rfl rfl) rfl ?_
   refine AL_ev (Ev_load_ptr rfl rfl rfl rfl rfl rfl ts39 ta39 rfl (fun _ => rfl)) rfl ?_
   refine AL_ev (Ev_ix_sl rfl rfl te39 ts41 (by omega) (by assumption)) rfl ?_
   refine AL_ev (Ev_load_rp rfl rfl rfl ts41 ta41 (by simp) (by intro h; cases h)) rfl ?_
   refine AL_ev (Ev_move) rfl ?_
   refine AL_ev (Ev_move) rfl ?_
   refine AL_jcall hT (ds := [inj y, .c (.bool neg), .c (.func (.func kk) #[] xs.toArray)]) (.plain rfl) rfl cl45 rfl (ih y (by simp) neg (eachF step x neg a) (bulk_mem hb y (by simp)) (by omega)) hJ rfl fun C1 F1 hm1 hJ hs1 hT => ?_
   obtain ⟨hM, hS⟩ := jstep hM hS hm1 hs1
   clear hm1 hs1
   refine AL_nil ?_
   refine jend2 rfl hM hdm rfl hJ hS ?_
   exact eachF_two hp
  ·refine AC_region ?_
   refine AL_ev (Ev_seql rfl rfl) rfl ?_
   refine AL_ev (Ev_assign) rfl ?_
   refine AL_nil ?_
   refine hK4 _ _ _ ?_
   refine AC_cond rfl (fun hc3 => ?_) (fun hc3 => ?_)
   ·have hp0 := of_decide_eq_true hc3
    obtain ⟨x, y, rfl⟩ := len2 (show ks.length = 2 from predS_kids [45, 62] 2 (by omega) rfl hp0)
    have hp : predS (.mk k s m [x, y]) = cComma ∨ predS (.mk k s m [x, y]) = cSemi ∨ predS (.mk k s m [x, y]) = cArrow := .inr (.inr hp0)
    have hu0 : (injs [x, y])[(0 : Int).toNat]? = some (inj x) := rfl
    have hu1 : (injs [x, y])[(1 : Int).toNat]? = some (inj y) := rfl
    simp only [sz, szs] at hl
    have hle := eachF_le hμ x neg a
    refine AC_seq fun K9 hK9 => ?_
    refine AC_region ?_
    refine AL_ev (Ev_fa_ptr rfl fa41_3 rfl rfl) rfl ?_
    refine AL_ev (Ev_load_ptr rfl rfl rfl rfl rfl rfl ts39 ta39 rfl (fun _ => rfl)) rfl ?_
    refine AL_ev (Ev_ix_sl rfl rfl te39 ts41 (by omega) (by assumption)) rfl ?_
    refine AL_ev (Ev_load_rp rfl rfl rfl ts41 ta41 (by simp) (by intro h; cases h)) rfl ?_
    refine AL_ev (Ev_move) rfl ?_
    refine AL_ev (Ev_move) rfl ?_
    refine AL_jcall hT (ds := [inj x, .c (.bool neg), .c (.func (.func kk) #[] xs.toArray)]) (.plain rfl) rfl cl45 rfl (ih x (by simp) neg (a) (bulk_mem hb x (by simp)) (by omega)) hJ rfl fun C1 F1 hm1 hJ hs1 hT => ?_
    obtain ⟨hM, hS⟩ := jstep hM hS hm1 hs1
    clear hm1 hs1
    refine AL_nil ?_
    refine hK9 _ _ _ ?_
    refine AC_region ?_
    refine AL_ev (Ev_fa_ptr rfl fa41_3 rfl rfl) rfl ?_
    refine AL_ev (Ev_load_ptr rfl rfl rfl rfl rfl rfl ts39 ta39 rfl (fun _ => rfl)) rfl ?_
    refine AL_ev (Ev_ix_sl rfl rfl te39 ts41 (by omega) (by assumption)) rfl ?_
    refine AL_ev (Ev_load_rp rfl rfl rfl ts41 ta41 (by simp) (by intro h; cases h)) rfl ?_
    refine AL_ev (Ev_move) rfl ?_
    refine AL_ev (Ev_move) rfl ?_
    refine AL_jcall hT (ds := [inj y, .c (.bool neg), .c (.func (.func kk) #[] xs.toArray)]) (.plain rfl) rfl cl45 rfl (ih y (by simp) neg (eachF step x neg a) (bulk_mem hb y (by simp)) (by omega)) hJ rfl fun C1 F1 hm1 hJ hs1 hT => ?_
    obtain ⟨hM, hS⟩ := jstep hM hS hm1 hs1
    clear hm1 hs1
    refine AL_nil ?_
    refine jend2 rfl hM hdm rfl hJ hS ?_
    exact eachF_two hp
   ·refine AC_seq fun K10 hK10 => ?_
    refine AC_region ?_
    refine AL_ev (Ev_seql rfl rfl) rfl ?_
    refine AL_ev (Ev_assign) rfl ?_
    refine AL_nil ?_
    refine hK10 _ _ _ ?_
    refine AC_cond rfl (fun hc4 => ?_) (fun hc4 => ?_)
    ·have hp := of_decide_eq_true hc4
     obtain ⟨x, rfl⟩ := len1 (show ks.length = 1 from predS_kids [92, 43] 1 (by omega) rfl hp)
     have hu0 : (injs [x])[(0 : Int).toNat]? = some (inj x) := rfl
     simp only [sz, szs] at hl
     refine AC_region ?_
     refine AL_ev (Ev_fa_ptr rfl fa41_3 rfl rfl) rfl ?_
     refine AL_ev (Ev_load_ptr rfl rfl rfl rfl rfl rfl ts39 ta39 rfl (fun _ => rfl)) rfl ?_
     refine AL_ev (Ev_ix_sl rfl rfl te39 ts41 (by omega) (by assumption)) rfl ?_
     refine AL_ev (Ev_load_rp rfl rfl rfl ts41 ta41 (by simp) (by intro h; cases h)) rfl ?_
     refine AL_ev (Ev_move) rfl ?_
     refine AL_jcall hT (ds := [inj x, .c (.bool true), .c (.func (.func kk) #[] xs.toArray)]) (.plain rfl) rfl cl45 rfl (ih x (by simp) true (a) (bulk_mem hb x (by simp)) (by omega)) hJ rfl fun C1 F1 hm1 hJ hs1 hT => ?_
     obtain ⟨hM, hS⟩ := jstep hM hS hm1 hs1
     clear hm1 hs1
     refine AL_nil ?_
     refine jend2 rfl hM hdm rfl hJ hS ?_
     exact eachF_not hp
    ·refine AC_seq fun K11 hK11 => ?_
     refine AC_region ?_
     refine AL_ev (Ev_seql rfl rfl) rfl ?_
     refine AL_ev (Ev_assign) rfl ?_
     refine AL_nil ?_
     refine hK11 _ _ _ ?_
     refine AC_cond rfl (fun hc5 => ?_) (fun hc5 => ?_)
     ·have hp := of_decide_eq_true hc5
      obtain ⟨x, rfl⟩ := len1 (show ks.length = 1 from predS_kids [99, 97, 108, 108] 1 (by omega) rfl hp)
      have hu0 : (injs [x])[(0 : Int).toNat]? = some (inj x) := rfl
      simp only [sz, szs] at hl
      refine AC_region ?_
      refine AL_ev (Ev_fa_ptr rfl fa41_3 rfl rfl) rfl ?_
      refine AL_ev (Ev_load_ptr rfl rfl rfl rfl rfl rfl ts39 ta39 rfl (fun _ => rfl)) rfl ?_
      refine AL_ev (Ev_ix_sl rfl rfl te39 ts41 (by omega) (by assumption)) rfl ?_
      refine AL_ev (Ev_load_rp rfl rfl rfl ts41 ta41 (by simp) (by intro h; cases h)) rfl ?_
      refine AL_ev (Ev_move) rfl ?_
      refine AL_ev (Ev_move) rfl ?_
      refine AL_jcall hT (ds := [inj x, .c (.bool neg), .c (.func (.func kk) #[] xs.toArray)]) (.plain rfl) rfl cl45 rfl (ih x (by simp) neg (a) (bulk_mem hb x (by simp)) (by omega)) hJ rfl fun C1 F1 hm1 hJ hs1 hT => ?_
      obtain ⟨hM, hS⟩ := jstep hM hS hm1 hs1
      clear hm1 hs1
      refine AL_nil ?_
      refine jend2 rfl hM hdm rfl hJ hS ?_
      exact eachF_call hp
     ·refine AC_seq fun K12 hK12 => ?_
      refine AC_region ?_
      refine AL_ev (Ev_seql rfl rfl) rfl ?_
      refine AL_ev (Ev_assign) rfl ?_
      refine AL_nil ?_
      refine hK12 _ _ _ ?_
      refine AC_cond rfl (fun hc6 => ?_) (fun hc6 => ?_)
      ·have hp := of_decide_eq_true hc6
       obtain ⟨x, y, z, rfl⟩ := len3 (show ks.length = 3 from predS_kids [99, 97, 116, 99, 104] 3 (by omega) rfl hp)
       have hu0 : (injs [x, y, z])[(0 : Int).toNat]? = some (inj x) := rfl
       have hu1 : (injs [x, y, z])[(2 : Int).toNat]? = some (inj z) := rfl
       simp only [sz, szs] at hl
       have hle := eachF_le hμ x neg a
       refine AC_seq fun K13 hK13 => ?_
       refine AC_region ?_
       refine AL_ev (Ev_fa_ptr rfl fa41_3 rfl rfl) rfl ?_
       refine AL_ev (Ev_load_ptr rfl rfl rfl rfl rfl rfl ts39 ta39 rfl (fun _ => rfl)) rfl ?_
       refine AL_ev (Ev_ix_sl rfl rfl te39 ts41 (by omega) (by assumption)) rfl ?_
       refine AL_ev (Ev_load_rp rfl rfl rfl ts41 ta41 (by simp) (by intro h; cases h)) rfl ?_
       refine AL_ev (Ev_move) rfl ?_
       refine AL_ev (Ev_move) rfl ?_
       refine AL_jcall hT (ds := [inj x, .c (.bool neg), .c (.func (.func kk) #[] xs.toArray)]) (.plain rfl) rfl cl45 rfl (ih x (by simp) neg (a) (bulk_mem hb x (by simp)) (by omega)) hJ rfl fun C1 F1 hm1 hJ hs1 hT => ?_
       obtain ⟨hM, hS⟩ := jstep hM hS hm1 hs1
       clear hm1 hs1
       refine AL_nil ?_
       refine hK13 _ _ _ ?_
       refine AC_region ?_
       refine AL_ev (Ev_fa_ptr rfl fa41_3 rfl rfl) rfl ?_
       refine AL_ev (Ev_load_ptr rfl rfl rfl rfl rfl rfl ts39 ta39 rfl (fun _ => rfl)) rfl ?_
       refine AL_ev (Ev_ix_sl rfl rfl te39 ts41 (by omega) (by assumption)) rfl ?_
       refine AL_ev (Ev_load_rp rfl rfl rfl ts41 ta41 (by simp) (by intro h; cases h)) rfl ?_
       refine AL_ev (Ev_move) rfl ?_
       refine AL_ev (Ev_move) rfl ?_
       refine AL_jcall hT (ds := [inj z, .c (.bool neg), .c (.func (.func kk) #[] xs.toArray)]) (.plain rfl) rfl cl45 rfl (ih z (by simp) neg (eachF step x neg a) (bulk_mem hb z (by simp)) (by omega)) hJ rfl fun C1 F1 hm1 hJ hs1 hT => ?_
       obtain ⟨hM, hS⟩ := jstep hM hS hm1 hs1
       clear hm1 hs1
       refine AL_nil ?_
       refine jend2 rfl hM hdm rfl hJ hS ?_
       exact eachF_catch hp
      ·refine AC_seq fun K14 hK14 => ?_
       refine AC_region ?_
       refine AL_ev (Ev_move) rfl ?_
       refine AL_ev (Ev_sneq rfl rfl) rfl ?_
       refine AL_ev (Ev_move) rfl ?_
       refine AL_bool 12 rfl (fun hg7 => ?_) (fun hg7 => ?_)
       ·refine AL_guard_t rfl rfl rfl ?_
        refine AL_ev (Ev_move) rfl ?_
        refine AL_guard_t rfl rfl rfl ?_
        refine AL_fcall0 hT rfl cl87 (c_control (predS (.mk k s m ks))) rfl rfl ?_
        refine AL_guard_t rfl rfl rfl ?_
        refine AL_ev (Ev_not rfl) rfl ?_
        refine AL_ev (Ev_pick rfl) rfl ?_
        refine AL_nil ?_
        refine hK14 _ _ _ ?_
        refine AC_cond rfl (fun hc8 => ?_) (fun hc8 => ?_)
        ·refine AC_region ?_
         refine AL_ev (Ev_move) rfl ?_
         refine AL_ev (Ev_move) rfl ?_
         refine AL_ev (Ev_move) rfl ?_
         refine AL_jcall hT (ds := [.c (.string (predS (.mk k s m ks))), .c (.bool neg)]) (.clo rfl) hxs hcl rfl (hf (predS (.mk k s m ks)) neg a (by rw [sz] at hl; omega)) hJ rfl fun C1 F1 hm1 hJ hs1 hT => ?_
         obtain ⟨hM, hS⟩ := jstep hM hS hm1 hs1
         refine AL_nil ?_
         refine jend2 rfl hM hdm rfl hJ hS ?_
         exact (eachF_end hc1 hc2 hc3 hc4 hc5 hc6).trans (if_neg (by simp_all))
        ·refine AC_skip ?_
         refine jend2 rfl hM hdm rfl hJ hS ?_
         exact (eachF_end hc1 hc2 hc3 hc4 hc5 hc6).trans (if_pos (by simp_all))
       ·refine AL_guard_f rfl rfl rfl rfl ?_
        refine AL_guard_f rfl rfl rfl rfl ?_
        refine AL_guard_f rfl rfl rfl rfl ?_
        refine AL_ev (Ev_pick rfl) rfl ?_
        refine AL_nil ?_
        refine hK14 _ _ _ ?_
        refine AC_cond_f rfl ?_
        refine AC_skip ?_
        refine jend2 rfl hM hdm rfl hJ hS ?_
        exact (eachF_end hc1 hc2 hc3 hc4 hc5 hc6).trans (if_pos (by simp_all))
set_option maxHeartbeats 1000000 in
set_option maxRecDepth 4000 in
theorem c_callsIn (t : T) (hb : bulk t ≤ 1099511627775) : OCall Tryz.prog 27 [inj t] (.sl .one (strs (callsIn t))) := by
 have hsb := sz_bulk t
 generalize hg : callsIn t = R
 refine OCall_of (n := 10) Tryz.func27 rfl rfl (Nat.le_of_ble_eq_true rfl) fun C0 hdm hT0 => ?_
 have hX0 := CExt.refl C0
 have hT := hT0
 refine AC_seq fun K1 hK1 => ?_
 refine AC_region ?_
 refine AL_box (Lay.st [.one, .one, .one, .one]) (nf rfl) rfl (by simp [Lay.len, Lay.lens]) _ rfl rfl ?_
 refine AL_ev (Ev_assign) rfl ?_
 refine AL_nil ?_
 refine hK1 _ _ _ ?_
 refine AC_seq fun K2 hK2 => ?_
 refine AC_region ?_
 refine AL_alloc zo25 _ rfl rfl ?_
 refine AL_nil ?_
 refine hK2 _ _ _ ?_
 refine AC_seq fun K3 hK3 => ?_
 refine AC_seq fun K4 hK4 => ?_
 refine AC_region ?_
 refine AL_ev (Ev_load_ptr rfl rfl rfl rfl rfl rfl ts41 ta41 (by simp) (by intro h; cases h)) rfl ?_
 refine AL_fcall0 hT rfl cl42 (c_termOk t (by omega)) rfl rfl ?_
 refine AL_nil ?_
 refine hK4 _ _ _ ?_
 refine AC_cond rfl (fun hc1 => ?_) (fun hc1 => ?_)
 ·have hR : R = callsF t [] := by rw [← hg, callsIn, if_pos hc1]
  subst hR
  refine AC_region ?_
  refine AL_ev (Ev_load_ptr rfl rfl rfl rfl rfl rfl ts41 ta41 (by simp) (by intro h; cases h)) rfl ?_
  refine AL_ev (Ev_funcV rfl rfl) rfl ?_
  refine AL_ncall hT (pre := [inj t, .c (.bool false)]) (ys := callsF t []) (e := 9) 1 [_, _] rfl cl45 rfl rfl rfl rfl (fun b0 c0 => c_eachCall (Jl 25 9 b0 c0) 63 [.pointer (some ⟨b0, 0, none⟩)] rfl cl63 stepO (fun a => (a.length : Int)) stepO_le (fun s n a ha => c_callsIn1 b0 c0 s n a ha) t false [] (by omega) (by simp only [List.length_nil]; omega)) _ rfl rfl ?_
  refine AL_nil ?_
  refine hK3 _ _ _ ?_
  refine AC_seq fun K5 hK5 => ?_
  refine AC_region ?_
  refine AL_ev (Ev_load_ptr rfl rfl rfl rfl rfl rfl ts25 ta25 rfl (fun _ => rfl)) rfl ?_
  refine AL_ev (Ev_assign) rfl ?_
  refine AL_nil ?_
  refine hK5 _ _ _ ?_
  refine AC_ret ?_
  refine reto_ok hX0 hdm (.tmp rfl rfl .nil) (.ref rfl rfl (by simp) (OwVs_strs (by rfl)) (by simp)) rfl rfl
 ·have hR : R = [] := by rw [← hg, callsIn, if_neg (by simp [hc1])]
  subst hR
  refine AC_skip ?_
  refine hK3 _ _ _ ?_
  refine AC_seq fun K6 hK6 => ?_
  refine AC_region ?_
  refine AL_ev (Ev_load_ptr rfl rfl rfl rfl rfl rfl ts25 ta25 rfl (fun _ => rfl)) rfl ?_
  refine AL_ev (Ev_assign) rfl ?_
  refine AL_nil ?_
  refine hK6 _ _ _ ?_
  refine AC_ret ?_
  exact reto_ok hX0 hdm (.tmp rfl rfl .nil) .nil rfl rfl
end Go.Proofs.YtjgliechbnommaaGreatDoor
set_option linter.unusedVariables false
set_option linter.unusedSimpArgs false
namespace Go.Proofs.YtjgliechbnommaaGreatDoor
open Go.Eng
theorem cl102 : Callable Tryz.prog 102 := Callable_of Tryz.func102 (by kernel_rfl) (by kernel_rfl)
theorem cl113 : Callable Tryz.prog 113 := Callable_of Tryz.func113 (by kernel_rfl) (by kernel_rfl)
theorem cl27 : Callable Tryz.prog 27 := Callable_of Tryz.func27 (by kernel_rfl) (by kernel_rfl)
theorem cl54 : Callable Tryz.prog 54 := Callable_of Tryz.func54 (by kernel_rfl) (by kernel_rfl)
theorem cl89 : Callable Tryz.prog 89 := Callable_of Tryz.func89 (by kernel_rfl) (by kernel_rfl)
theorem cl90 : Callable Tryz.prog 90 := Callable_of Tryz.func90 (by kernel_rfl) (by kernel_rfl)
theorem cl92 : Callable Tryz.prog 92 := Callable_of Tryz.func92 (by kernel_rfl) (by kernel_rfl)
theorem fa54_1 : tyField Tryz.prog 54 1 = some (4, true) := by kernel_rfl
theorem fa54_2 : tyField Tryz.prog 54 2 = some (8, true) := by kernel_rfl
theorem ta27 : tyAgg Tryz.prog 27 = some true := by kernel_rfl
theorem tb54 : tyBytes Tryz.prog 54 = some 128 := by kernel_rfl
theorem tpl54 : tyPlaces Tryz.prog 54 = some (layPlaces 0 [(Lay.st [.one, .one, .one, .one]), (Lay.st [.one, .one, .one, .one]), .one]) := by kernel_rfl
theorem ts27 : tySize Tryz.prog 27 = some 2 := by kernel_rfl
set_option maxHeartbeats 1000000 in
set_option maxRecDepth 4000 in
theorem c_copyClause (c : Cl) : PCall Tryz.prog 92 [injC c] (· = [injC c]) := by
 obtain ⟨h, b, f⟩ := c
 refine PCall_of (n := 12) Tryz.func92 rfl rfl (Nat.le_of_ble_eq_true rfl) fun C hdm hT0 => ?_
 have hT := hT0
 refine AC_seq fun K1 hK1 => ?_
 refine AC_region ?_
 refine AL_box (Lay.st [(Lay.st [.one, .one, .one, .one]), (Lay.st [.one, .one, .one, .one]), .one]) (nf rfl) rfl (by rfl) _ rfl rfl ?_
 refine AL_alloc zo54 _ rfl rfl ?_
 refine AL_nil ?_
 refine hK1 _ _ _ ?_
 refine AC_seq fun K2 hK2 => ?_
 refine AC_draw hT follows [0, 1, 2, 3, 4, 5, 6, 7, 8, 9] (by kernel_rfl) ?_
 refine DT_ev rfl (EA_fa_ptr rfl fa54_0 rfl rfl) rfl ?_
 refine DT_ev rfl (EA_load_ptr rfl rfl rfl rfl rfl rfl ts41 ta41 (by simp) (by intro h; cases h)) rfl ?_
 refine DT_fcall0 rfl rfl cl102 (c_copyTerm h) rfl rfl ?_
 refine DT_ev rfl (EA_fa_ptr rfl fa54_1 rfl rfl) rfl ?_
 refine DT_ev rfl (EA_load_ptr rfl rfl rfl rfl rfl rfl ts41 ta41 (by simp) (by intro h; cases h)) rfl ?_
 refine DT_fcall0 rfl rfl cl102 (c_copyTerm b) rfl rfl ?_
 refine DT_ev rfl (EA_fa_ptr rfl fa54_2 rfl rfl) rfl ?_
 refine DT_ev rfl (EA_load_ptr rfl rfl rfl rfl rfl rfl ts9 ta9 rfl (fun _ => rfl)) rfl ?_
 refine DT_ev rfl (EA_build (fs := [(Lay.st [.one, .one, .one, .one]), (Lay.st [.one, .one, .one, .one]), .one]) (zs := [.agg [.one, .one, .one, .one] [.c (.int .i64 0), .c (.string ⟨#[]⟩), .c (.int .i64 0), .c (.slice none 0 0)], .agg [.one, .one, .one, .one] [.c (.int .i64 0), .c (.string ⟨#[]⟩), .c (.int .i64 0), .c (.slice none 0 0)], .c (.string ⟨#[]⟩)]) tz54 rfl tpl54 (.cons rfl rfl (by (simp [inj_lenL, Lay.len, Lay.lens]; done)) (.cons rfl rfl (by (simp [inj_lenL, Lay.len, Lay.lens]; done)) (.cons rfl rfl (by rfl) .nil)))) rfl ?_
 refine DT_store rfl rfl (nf rfl) rfl rfl rfl rfl rfl rfl (by rfl) ts54 rfl rfl ?_
 refine DTi.nil ?_
 refine hK2 _ _ _ ?_
 refine AC_ret ?_
 exact ret_ok hdm (.cell rfl rfl rfl rfl rfl rfl ts54 ta54 (by rfl) (by intro h; cases h) .nil) (.cons (by exact .agg (.cons .d (.cons .d (.cons .d .nil)))) .nil) rfl
set_option maxHeartbeats 1000000 in
set_option maxRecDepth 4000 in
theorem c_l34Clause (c : Cl) : PCall Tryz.prog 113 [injC c] (· = [injC c]) := by
 obtain ⟨h, b, f⟩ := c
 refine PCall_of (n := 12) Tryz.func113 rfl rfl (Nat.le_of_ble_eq_true rfl) fun C hdm hT0 => ?_
 have hT := hT0
 refine AC_seq fun K1 hK1 => ?_
 refine AC_region ?_
 refine AL_box (Lay.st [(Lay.st [.one, .one, .one, .one]), (Lay.st [.one, .one, .one, .one]), .one]) (nf rfl) rfl (by rfl) _ rfl rfl ?_
 refine AL_alloc zo54 _ rfl rfl ?_
 refine AL_nil ?_
 refine hK1 _ _ _ ?_
 refine AC_seq fun K2 hK2 => ?_
 refine AC_region ?_
 refine AL_ev (Ev_fa_ptr rfl fa54_0 rfl rfl) rfl ?_
 refine AL_ev (Ev_load_ptr rfl rfl rfl rfl rfl rfl ts41 ta41 (by simp) (by intro h; cases h)) rfl ?_
 refine AL_fcall0 hT rfl cl143 (c_l34Term h) rfl rfl ?_
 refine AL_ev (Ev_fa_ptr rfl fa54_0 rfl rfl) rfl ?_
 refine AL_store rfl (nf rfl) rfl rfl rfl rfl rfl rfl (by simp [Lay.len, Lay.lens]) ts41 rfl rfl ?_
 refine AL_nil ?_
 refine hK2 _ _ _ ?_
 refine AC_seq fun K3 hK3 => ?_
 refine AC_region ?_
 refine AL_ev (Ev_fa_ptr rfl fa54_1 rfl rfl) rfl ?_
 refine AL_ev (Ev_load_ptr rfl rfl rfl rfl rfl rfl ts41 ta41 (by simp) (by intro h; cases h)) rfl ?_
 refine AL_fcall0 hT rfl cl143 (c_l34Term b) rfl rfl ?_
 refine AL_ev (Ev_fa_ptr rfl fa54_1 rfl rfl) rfl ?_
 refine AL_store rfl (nf rfl) rfl rfl rfl rfl rfl rfl (by simp [Lay.len, Lay.lens]) ts41 rfl rfl ?_
 refine AL_nil ?_
 refine hK3 _ _ _ ?_
 refine AC_seq fun K4 hK4 => ?_
 refine AC_region ?_
 refine AL_ev (Ev_load_ptr rfl rfl rfl rfl rfl rfl ts54 ta54 (by rfl) (by intro h; cases h)) rfl ?_
 refine AL_store rfl (nf rfl) rfl rfl rfl rfl rfl rfl (by rfl) ts54 rfl rfl ?_
 refine AL_nil ?_
 refine hK4 _ _ _ ?_
 refine AC_ret ?_
 exact ret_ok hdm (.cell rfl rfl rfl rfl rfl rfl ts54 ta54 (by rfl) (by intro h; cases h) .nil) (.cons (by exact .agg (.cons .d (.cons .d (.cons .d .nil)))) .nil) rfl
set_option maxHeartbeats 1000000 in
set_option maxRecDepth 4000 in
theorem c_l34Clauses (cs : List Cl) : PCall Tryz.prog 90 [.sl LC (injCs cs)] (· = [.sl LC (injCs cs)]) := by
 refine PCall_of (n := 21) Tryz.func90 rfl rfl (Nat.le_of_ble_eq_true rfl) fun C hdm hT0 => ?_
 have hT := hT0
 refine AC_seq fun K1 hK1 => ?_
 refine AC_region ?_
 refine AL_ev (Ev_assign) rfl ?_
 refine AL_nil ?_
 refine hK1 _ _ _ ?_
 refine AC_seq fun K2 hK2 => ?_
 refine AC_region ?_
 refine AL_bV (Lay.st [(Lay.st [.one, .one, .one, .one]), (Lay.st [.one, .one, .one, .one]), .one]) rfl te24 ts54 tz54 rfl rfl (by decide) (by decide) (by rfl) _ rfl rfl ?_
 refine AL_ev (Ev_assign) rfl ?_
 refine AL_nil ?_
 refine hK2 _ _ _ ?_
 refine AC_seq fun K3 hK3 => ?_
 refine AC_seq fun K4 hK4 => ?_
 refine AC_region ?_
 refine AL_ev (Ev_assign) rfl ?_
 refine AL_nil ?_
 refine hK4 _ _ _ ?_
 refine AC_block ?_
 refine AC_loopS [0] (Nat × List Cl) (fun ⟨j, out⟩ => [(4, i64 j), (3, .ref LC 0 0 (injCs out).length)]) (fun ⟨j, out⟩ => [some ⟨54, LC, (injCs out).map V.d⟩]) (fun st => cs.length - st.1) (fun ⟨j, out⟩ => j ≤ cs.length ∧ (cs = out ++ cs.drop j ∧ out.length ≤ j)) ((0, [])) ?_ ?_ ?_
 ·exact enterS [some 0] rfl rfl (BxTo_some rfl rfl rfl rfl (by exact .nil) BxTo_nil) (SlTo_cons (by exact .rd .d) (SlTo_cons (Vw_refe rfl (by rfl)) (SlTo_cons (by exact .rd .d) SlTo_nil)))
 ·exact ⟨Nat.zero_le _, by simp, by simp⟩
 rintro ⟨j, out⟩ ⟨hj, ⟨hI, ho⟩⟩
 show AC _ _ _ _ _ (FS [0] _ [(4, i64 j), (3, .ref LC 0 0 (injCs out).length)]) [some ⟨54, LC, (injCs out).map V.d⟩]
 refine AC_seq fun K5 hK5 => ?_
 refine AC_seq fun K6 hK6 => ?_
 refine AC_region ?_
 refine AL_ev (Ev_move) rfl ?_
 refine AL_ev (Ev_move) rfl ?_
 refine AL_lim (x := (Operand.tmp 7)) rfl fun hl1 => ?_
 try simp only [injs_length, ints_length, strs_length, injCs_length, u8s_length, List.length_map] at hl1
 refine AL_ev (Ev_len_injCs te24 rfl) rfl ?_
 refine AL_ev (Ev_lss rfl rfl) rfl ?_
 refine AL_nil ?_
 refine hK6 _ _ _ ?_
 refine AC_cond rfl (fun hc1 => ?_) (fun hc1 => ?_)
 ·have hlt : j < cs.length := by simpa using hc1
  obtain ⟨u, hu⟩ : ∃ x, cs[j]? = some x := ⟨_, List.getElem?_eq_getElem hlt⟩
  have hu2 := injCs_get hu
  have hdr := drop_get hu
  refine AC_skip ?_
  refine hK5 _ _ _ ?_
  refine AC_seq fun K7 hK7 => ?_
  refine AC_block ?_
  refine AC_region ?_
  refine AL_ev (Ev_move) rfl ?_
  refine AL_ev (Ev_move) rfl ?_
  refine AL_ev (Ev_move) rfl ?_
  refine AL_ev (Ev_ix_sl rfl rfl te24 ts54 (by omega) (by assumption)) rfl ?_
  refine AL_ev (Ev_load_rp rfl rfl rfl ts54 ta54 (by rfl) (by intro h; cases h)) rfl ?_
  refine AL_fcall0 hT rfl cl113 (c_l34Clause u) rfl rfl ?_
  refine AL_bD (Lay.st [(Lay.st [.one, .one, .one, .one]), (Lay.st [.one, .one, .one, .one]), .one]) rfl te24 ts54 tz54 rfl rfl (by decide) (by decide) (by rfl) rfl ?_
  refine AL_append rfl rfl rfl te24 ts54 tz54 rfl tb54 (by decide) (by decide) rfl (by (simp; done)) (Src_sl rfl) (by simp only [lim]; (simp; omega)) _ rfl rfl ?_
  refine AL_ev (Ev_assign) rfl ?_
  refine AL_nil ?_
  refine hK7 _ _ _ ?_
  refine AC_region ?_
  refine AL_ev (Ev_move) rfl ?_
  refine AL_ev (Ev_add rfl rfl _ (wrap_id (by omega) (by omega))) rfl ?_
  refine AL_ev (Ev_assign) rfl ?_
  refine AL_nil ?_
  refine closeS (j + 1, out ++ [u]) [some 1] rfl rfl (by show cs.length - (j + 1) < cs.length - j; omega) ⟨hlt, ?_⟩ (BxTo_some rfl rfl rfl rfl (by exact VwL_app (by (simp [injCs]; done))) BxTo_nil) (SlTo_cons (by exact .rd .d) (SlTo_cons (Vw_refe rfl (by simp)) (SlTo_cons (by exact .rd .d) SlTo_nil)))
  exact ⟨by rw [List.append_assoc, List.singleton_append, ← hdr]; exact hI, by simp; omega⟩
 ·have hj2 : j = cs.length := by
   have : ¬ j < cs.length := by simpa using hc1
   omega
  subst hj2
  rw [List.drop_length] at hI
  refine AC_exit ?_
  refine hK3 _ _ _ ?_
  refine AC_seq fun K8 hK8 => ?_
  refine AC_region ?_
  refine AL_ev (Ev_move) rfl ?_
  refine AL_ev (Ev_assign) rfl ?_
  refine AL_nil ?_
  refine hK8 _ _ _ ?_
  refine AC_ret ?_
  refine ret_ok hdm (.tmp rfl rfl .nil) (.cons (.ref trivial rfl rfl (by simp) (ReadsL_d _)) .nil) ?_
  rw [List.append_nil] at hI
  rw [← hI]
set_option maxHeartbeats 1000000 in
set_option maxRecDepth 4000 in
theorem c_clausesOf (d : Dbt) (p : ByteArray) (hb : bulkD d ≤ 1099511627776) : PCall Tryz.prog 54 [injD d, .c (.string p)] (· = [.sl LC (injCs (clsOf d.cs p))]) := by
 obtain ⟨cs, op⟩ := d
 obtain ⟨hnc, hbc, hno, hbo⟩ := bulkD_bd hb
 refine PCall_of (n := 27) Tryz.func54 rfl rfl (Nat.le_of_ble_eq_true rfl) fun C hdm hT0 => ?_
 have hT := hT0
 refine AC_seq fun K1 hK1 => ?_
 refine AC_region ?_
 refine AL_box (Lay.st [.one, .one]) (nf rfl) rfl (by rfl) _ rfl rfl ?_
 refine AL_ev (Ev_assign) rfl ?_
 refine AL_nil ?_
 refine hK1 _ _ _ ?_
 refine AC_seq fun K2 hK2 => ?_
 refine AC_region ?_
 refine AL_ev (Ev_assign) rfl ?_
 refine AL_nil ?_
 refine hK2 _ _ _ ?_
 refine AC_seq fun K3 hK3 => ?_
 refine AC_seq fun K4 hK4 => ?_
 refine AC_region ?_
 refine AL_ev (Ev_fa_ptr rfl fa27_0 rfl rfl) rfl ?_
 refine AL_ev (Ev_load_ptr rfl rfl rfl rfl rfl rfl ts24 ta24 rfl (fun _ => rfl)) rfl ?_
 refine AL_lim (x := (Operand.tmp 9)) rfl fun hl1 => ?_
 try simp only [injs_length, ints_length, strs_length, injCs_length, u8s_length, List.length_map] at hl1
 refine AL_ev (Ev_len_injCs te24 rfl) rfl ?_
 refine AL_ev (Ev_move) rfl ?_
 refine AL_nil ?_
 refine hK4 _ _ _ ?_
 refine AC_block ?_
 refine AC_loopS [1, 9, 10] (Nat × List Cl) (fun ⟨j, out⟩ => [(11, i64 j), (5, .ref LC 0 0 (injCs out).length)]) (fun ⟨j, out⟩ => [some ⟨54, LC, (injCs out).map V.d⟩]) (fun st => cs.length - st.1) (fun ⟨j, out⟩ => j ≤ cs.length ∧ (clsOf cs p = out ++ clsOf (cs.drop j) p ∧ out.length ≤ j)) ((0, [])) ?_ ?_ ?_
 ·refine Wk.then (Wk_nil_slot 5 54 LC rfl 1 rfl ?_)
  exact enterS [some 1] rfl rfl (BxTo_some rfl rfl rfl rfl (by exact .nil) BxTo_nil) (SlTo_cons (by exact .rd .d) (SlTo_cons (Vw_refe rfl (by rfl)) (SlTo_cons (by exact .rd .d) (SlTo_cons (by exact .rd .d) (SlTo_cons (by exact .rd .d) SlTo_nil)))))
 ·exact ⟨Nat.zero_le _, by simp, by simp⟩
 rintro ⟨j, out⟩ ⟨hj, ⟨hI, ho⟩⟩
 show AC _ _ _ _ _ (FS [1, 9, 10] _ [(11, i64 j), (5, .ref LC 0 0 (injCs out).length)]) [some ⟨54, LC, (injCs out).map V.d⟩]
 refine AC_seq fun K5 hK5 => ?_
 refine AC_region ?_
 refine AL_ev (Ev_lss rfl rfl) rfl ?_
 refine AL_nil ?_
 refine hK5 _ _ _ ?_
 refine AC_seq fun K6 hK6 => ?_
 refine AC_cond rfl (fun hc1 => ?_) (fun hc1 => ?_)
 ·have hlt : j < cs.length := by simpa using hc1
  obtain ⟨u, hu⟩ : ∃ x, cs[j]? = some x := ⟨_, List.getElem?_eq_getElem hlt⟩
  have hu2 := injCs_get hu
  have hdr := drop_get hu
  obtain ⟨hbu, _, _⟩ := bulkCs_bd (List.mem_of_getElem? hu) hbc
  rw [hdr, clsOf] at hI
  refine AC_skip ?_
  refine hK6 _ _ _ ?_
  refine AC_seq fun K7 hK7 => ?_
  refine AC_block ?_
  refine AC_seq fun K8 hK8 => ?_
  refine AC_region ?_
  refine AL_ev (Ev_ix_sl rfl rfl te24 ts54 (by omega) (by assumption)) rfl ?_
  refine AL_ev (Ev_load_rp rfl rfl rfl ts54 ta54 (by rfl) (by intro h; cases h)) rfl ?_
  refine AL_alloc zo54 _ rfl rfl ?_
  refine AL_store rfl (nf rfl) rfl rfl rfl rfl rfl rfl (by rfl) ts54 rfl rfl ?_
  refine AL_nil ?_
  refine hK8 _ _ _ ?_
  refine AC_seq fun K9 hK9 => ?_
  refine AC_region ?_
  refine AL_ev (Ev_fa_ptr rfl fa54_0 rfl rfl) rfl ?_
  refine AL_ev (Ev_load_ptr rfl rfl rfl rfl rfl rfl ts41 ta41 (by simp) (by intro h; cases h)) rfl ?_
  refine AL_fcall0 hT rfl cl44 (c_predOf u.h (by omega)) rfl rfl ?_
  refine AL_ev (Ev_move) rfl ?_
  refine AL_ev (Ev_seql rfl rfl) rfl ?_
  refine AL_nil ?_
  refine hK9 _ _ _ ?_
  refine AC_cond rfl (fun hc2 => ?_) (fun hc2 => ?_)
  ·refine AC_region ?_
   refine AL_ev (Ev_move) rfl ?_
   refine AL_ev (Ev_load_ptr rfl rfl rfl rfl rfl rfl ts54 ta54 (by rfl) (by intro h; cases h)) rfl ?_
   refine AL_fcall0 hT rfl cl92 (c_copyClause u) rfl rfl ?_
   refine AL_bD (Lay.st [(Lay.st [.one, .one, .one, .one]), (Lay.st [.one, .one, .one, .one]), .one]) rfl te24 ts54 tz54 rfl rfl (by decide) (by decide) (by rfl) rfl ?_
   refine AL_append rfl rfl rfl te24 ts54 tz54 rfl tb54 (by decide) (by decide) rfl (by (simp; done)) (Src_sl rfl) (by simp only [lim]; (simp; omega)) _ rfl rfl ?_
   refine AL_ev (Ev_assign) rfl ?_
   refine AL_nil ?_
   refine hK7 _ _ _ ?_
   refine AC_region ?_
   refine AL_ev (Ev_add rfl rfl _ (wrap_id (by omega) (by omega))) rfl ?_
   refine AL_ev (Ev_move) rfl ?_
   refine AL_nil ?_
   refine closeS (j + 1, out ++ [u]) [some 2] rfl rfl (by show cs.length - (j + 1) < cs.length - j; omega) ⟨hlt, ?_⟩ (BxTo_some rfl rfl rfl rfl (by exact VwL_app (by (simp [injCs]; done))) BxTo_nil) (SlTo_cons (by exact .rd .d) (SlTo_cons (Vw_refe rfl (by simp)) (SlTo_cons (by exact .rd .d) (SlTo_cons (by exact .rd .d) (SlTo_cons (by exact .rd .d) SlTo_nil)))))
   exact ⟨by rw [hI, ite_dec hc2]; simp, by simp; omega⟩
  ·refine AC_skip ?_
   refine hK7 _ _ _ ?_
   refine AC_region ?_
   refine AL_ev (Ev_add rfl rfl _ (wrap_id (by omega) (by omega))) rfl ?_
   refine AL_ev (Ev_move) rfl ?_
   refine AL_nil ?_
   refine closeS (j + 1, out) [some 0] rfl rfl (by show cs.length - (j + 1) < cs.length - j; omega) ⟨hlt, ?_⟩ (BxTo_some rfl rfl rfl rfl (by exact VwL_dd (by rfl)) BxTo_nil) (SlTo_cons (by exact .rd .d) (SlTo_cons (Vw_refe rfl (by rfl)) (SlTo_cons (by exact .rd .d) (SlTo_cons (by exact .rd .d) (SlTo_cons (by exact .rd .d) SlTo_nil)))))
   exact ⟨by rw [hI, ite_decn hc2], by omega⟩
 ·have hj2 : j = cs.length := by
   have : ¬ j < cs.length := by simpa using hc1
   omega
  subst hj2
  rw [List.drop_length] at hI
  refine AC_exit ?_
  refine hK3 _ _ _ ?_
  refine AC_seq fun K10 hK10 => ?_
  refine AC_region ?_
  refine AL_ev (Ev_move) rfl ?_
  refine AL_ev (Ev_assign) rfl ?_
  refine AL_nil ?_
  refine hK10 _ _ _ ?_
  refine AC_ret ?_
  refine ret_ok hdm (.tmp rfl rfl .nil) (.cons (.ref trivial rfl rfl (by simp) (ReadsL_d _)) .nil) ?_
  rw [clsOf, List.append_nil] at hI
  rw [hI]
set_option maxHeartbeats 1000000 in
set_option maxRecDepth 4000 in
theorem c_clausesRaw (d : Dbt) (p : ByteArray) (hb : bulkD d ≤ 1099511627776) : PCall Tryz.prog 89 [injD d, .c (.string p)] (· = [.sl LC (injCs (clsOf d.cs p))]) := by
 obtain ⟨cs, op⟩ := d
 obtain ⟨hnc, hbc, hno, hbo⟩ := bulkD_bd hb
 refine PCall_of (n := 33) Tryz.func89 rfl rfl (Nat.le_of_ble_eq_true rfl) fun C hdm hT0 => ?_
 have hT := hT0
 refine AC_seq fun K1 hK1 => ?_
 refine AC_region ?_
 refine AL_box (Lay.st [.one, .one]) (nf rfl) rfl (by rfl) _ rfl rfl ?_
 refine AL_ev (Ev_assign) rfl ?_
 refine AL_nil ?_
 refine hK1 _ _ _ ?_
 refine AC_seq fun K2 hK2 => ?_
 refine AC_region ?_
 refine AL_bV (Lay.st [(Lay.st [.one, .one, .one, .one]), (Lay.st [.one, .one, .one, .one]), .one]) rfl te24 ts54 tz54 rfl rfl (by decide) (by decide) (by rfl) _ rfl rfl ?_
 refine AL_ev (Ev_assign) rfl ?_
 refine AL_nil ?_
 refine hK2 _ _ _ ?_
 refine AC_seq fun K3 hK3 => ?_
 refine AC_seq fun K4 hK4 => ?_
 refine AC_region ?_
 refine AL_ev (Ev_assign) rfl ?_
 refine AL_nil ?_
 refine hK4 _ _ _ ?_
 refine AC_block ?_
 refine AC_loopS [1] (Nat × List Cl) (fun ⟨j, out⟩ => [(6, i64 j), (5, .ref LC 0 0 (injCs out).length), (2, .d (.rp (Lay.st [.one, .one]) (injD ⟨cs, op⟩) []))]) (fun ⟨j, out⟩ => [some ⟨54, LC, (injCs out).map V.d⟩]) (fun st => cs.length - st.1) (fun ⟨j, out⟩ => j ≤ cs.length ∧ (clsOf cs p = out ++ clsOf (cs.drop j) p ∧ out.length ≤ j)) ((0, [])) ?_ ?_ ?_
 ·exact enterS [some 1] rfl rfl (BxTo_some rfl rfl rfl rfl (by exact .nil) BxTo_nil) (SlTo_cons (by exact .rd .d) (SlTo_cons (Vw_refe rfl (by rfl)) (SlTo_cons (by exact .rd (.ptr (srcFree rfl) rfl rfl rfl .d)) (SlTo_cons (by exact .rd .d) SlTo_nil))))
 ·exact ⟨Nat.zero_le _, by simp, by simp⟩
 rintro ⟨j, out⟩ ⟨hj, ⟨hI, ho⟩⟩
 show AC _ _ _ _ _ (FS [1] _ [(6, i64 j), (5, .ref LC 0 0 (injCs out).length), (2, .d (.rp (Lay.st [.one, .one]) (injD ⟨cs, op⟩) []))]) [some ⟨54, LC, (injCs out).map V.d⟩]
 refine AC_seq fun K5 hK5 => ?_
 refine AC_seq fun K6 hK6 => ?_
 refine AC_region ?_
 refine AL_ev (Ev_move) rfl ?_
 refine AL_ev (Ev_fa_rp rfl fa27_0 rfl rfl) rfl ?_
 refine AL_ev (Ev_load_rp rfl rfl rfl ts24 ta24 rfl (fun _ => rfl)) rfl ?_
 refine AL_lim (x := (Operand.tmp 10)) rfl fun hl1 => ?_
 try simp only [injs_length, ints_length, strs_length, injCs_length, u8s_length, List.length_map] at hl1
 refine AL_ev (Ev_len_injCs te24 rfl) rfl ?_
 refine AL_ev (Ev_lss rfl rfl) rfl ?_
 refine AL_nil ?_
 refine hK6 _ _ _ ?_
 refine AC_cond rfl (fun hc1 => ?_) (fun hc1 => ?_)
 ·have hlt : j < cs.length := by simpa using hc1
  obtain ⟨u, hu⟩ : ∃ x, cs[j]? = some x := ⟨_, List.getElem?_eq_getElem hlt⟩
  have hu2 := injCs_get hu
  have hdr := drop_get hu
  obtain ⟨hbu, _, _⟩ := bulkCs_bd (List.mem_of_getElem? hu) hbc
  rw [hdr, clsOf] at hI
  refine AC_skip ?_
  refine hK5 _ _ _ ?_
  refine AC_seq fun K7 hK7 => ?_
  refine AC_block ?_
  refine AC_seq fun K8 hK8 => ?_
  refine AC_region ?_
  refine AL_ev (Ev_fa_rp rfl fa27_0 rfl rfl) rfl ?_
  refine AL_ev (Ev_load_rp rfl rfl rfl ts24 ta24 rfl (fun _ => rfl)) rfl ?_
  refine AL_ev (Ev_move) rfl ?_
  refine AL_ev (Ev_ix_sl rfl rfl te24 ts54 (by omega) (by assumption)) rfl ?_
  refine AL_ev (Ev_fa_rp rfl fa54_0 rfl rfl) rfl ?_
  refine AL_ev (Ev_load_rp rfl rfl rfl ts41 ta41 (by simp) (by intro h; cases h)) rfl ?_
  refine AL_fcall0 hT rfl cl34 (c_specPredOf u.h (by omega)) rfl rfl ?_
  refine AL_ev (Ev_move) rfl ?_
  refine AL_ev (Ev_seql rfl rfl) rfl ?_
  refine AL_nil ?_
  refine hK8 _ _ _ ?_
  refine AC_cond rfl (fun hc2 => ?_) (fun hc2 => ?_)
  ·refine AC_region ?_
   refine AL_ev (Ev_move) rfl ?_
   refine AL_ev (Ev_fa_rp rfl fa27_0 rfl rfl) rfl ?_
   refine AL_ev (Ev_load_rp rfl rfl rfl ts24 ta24 rfl (fun _ => rfl)) rfl ?_
   refine AL_ev (Ev_move) rfl ?_
   refine AL_ev (Ev_ix_sl rfl rfl te24 ts54 (by omega) (by assumption)) rfl ?_
   refine AL_ev (Ev_load_rp rfl rfl rfl ts54 ta54 (by rfl) (by intro h; cases h)) rfl ?_
   refine AL_bD (Lay.st [(Lay.st [.one, .one, .one, .one]), (Lay.st [.one, .one, .one, .one]), .one]) rfl te24 ts54 tz54 rfl rfl (by decide) (by decide) (by rfl) rfl ?_
   refine AL_append rfl rfl rfl te24 ts54 tz54 rfl tb54 (by decide) (by decide) rfl (by (simp; done)) (Src_sl rfl) (by simp only [lim]; (simp; omega)) _ rfl rfl ?_
   refine AL_ev (Ev_assign) rfl ?_
   refine AL_nil ?_
   refine hK7 _ _ _ ?_
   refine AC_region ?_
   refine AL_ev (Ev_move) rfl ?_
   refine AL_ev (Ev_add rfl rfl _ (wrap_id (by omega) (by omega))) rfl ?_
   refine AL_ev (Ev_assign) rfl ?_
   refine AL_nil ?_
   refine closeS (j + 1, out ++ [u]) [some 1] rfl rfl (by show cs.length - (j + 1) < cs.length - j; omega) ⟨hlt, ?_⟩ (BxTo_some rfl rfl rfl rfl (by exact VwL_app (by (simp [injCs]; done))) BxTo_nil) (SlTo_cons (by exact .rd .d) (SlTo_cons (Vw_refe rfl (by simp)) (SlTo_cons (by exact .rd .d) (SlTo_cons (by exact .rd .d) SlTo_nil))))
   exact ⟨by rw [hI, ite_dec hc2]; simp, by simp; omega⟩
  ·refine AC_skip ?_
   refine hK7 _ _ _ ?_
   refine AC_region ?_
   refine AL_ev (Ev_move) rfl ?_
   refine AL_ev (Ev_add rfl rfl _ (wrap_id (by omega) (by omega))) rfl ?_
   refine AL_ev (Ev_assign) rfl ?_
   refine AL_nil ?_
   refine closeS (j + 1, out) [some 0] rfl rfl (by show cs.length - (j + 1) < cs.length - j; omega) ⟨hlt, ?_⟩ (BxTo_some rfl rfl rfl rfl (by exact VwL_dd (by rfl)) BxTo_nil) (SlTo_cons (by exact .rd .d) (SlTo_cons (Vw_refe rfl (by rfl)) (SlTo_cons (by exact .rd .d) (SlTo_cons (by exact .rd .d) SlTo_nil))))
   exact ⟨by rw [hI, ite_decn hc2], by omega⟩
 ·have hj2 : j = cs.length := by
   have : ¬ j < cs.length := by simpa using hc1
   omega
  subst hj2
  rw [List.drop_length] at hI
  refine AC_exit ?_
  refine hK3 _ _ _ ?_
  refine AC_seq fun K9 hK9 => ?_
  refine AC_region ?_
  refine AL_ev (Ev_move) rfl ?_
  refine AL_ev (Ev_assign) rfl ?_
  refine AL_nil ?_
  refine hK9 _ _ _ ?_
  refine AC_ret ?_
  refine ret_ok hdm (.tmp rfl rfl .nil) (.cons (.ref trivial rfl rfl (by simp) (ReadsL_d _)) .nil) ?_
  rw [clsOf, List.append_nil] at hI
  rw [hI]
set_option maxHeartbeats 1000000 in
set_option maxRecDepth 4000 in
theorem c_specClausesOf (d : Dbt) (p : ByteArray) (hb : bulkD d ≤ 1099511627776) : PCall Tryz.prog 51 [injD d, .c (.string p)] (· = [.sl LC (injCs (clsOf d.cs p))]) := by
 refine PCall_of (n := 11) Tryz.func51 rfl rfl (Nat.le_of_ble_eq_true rfl) fun C hdm hT0 => ?_
 have hT := hT0
 refine AC_seq fun K1 hK1 => ?_
 refine AC_region ?_
 refine AL_box (Lay.st [.one, .one]) (nf rfl) rfl (by rfl) _ rfl rfl ?_
 refine AL_ev (Ev_assign) rfl ?_
 refine AL_nil ?_
 refine hK1 _ _ _ ?_
 refine AC_seq fun K2 hK2 => ?_
 refine AC_region ?_
 refine AL_ev (Ev_load_ptr rfl rfl rfl rfl rfl rfl ts27 ta27 (by rfl) (by intro h; cases h)) rfl ?_
 refine AL_ev (Ev_move) rfl ?_
 refine AL_fcall0 hT rfl cl89 (c_clausesRaw d p hb) rfl rfl ?_
 refine AL_ev (Ev_assign) rfl ?_
 refine AL_nil ?_
 refine hK2 _ _ _ ?_
 refine AC_seq fun K3 hK3 => ?_
 refine AC_region ?_
 refine AL_ev (Ev_move) rfl ?_
 refine AL_fcall0 hT rfl cl90 (c_l34Clauses (clsOf d.cs p)) rfl rfl ?_
 refine AL_ev (Ev_assign) rfl ?_
 refine AL_nil ?_
 refine hK3 _ _ _ ?_
 refine AC_ret ?_
 exact ret_ok hdm (.tmp rfl rfl .nil) (.cons .d .nil) rfl
set_option maxHeartbeats 1000000 in
set_option maxRecDepth 4000 in
theorem c_callsOf (d : Dbt) (p : ByteArray) (hb : bulkD d ≤ 1048576) : OCall Tryz.prog 19 [injD d, .c (.string p)] (.sl .one (strs (callsOf d p))) := by
 have hcl := callsOf_len d p
 have hw := wC_bulk d.cs
 have hw2 := wC_clsOf d.cs p
 obtain ⟨hnc, hbc, hno, hbo⟩ := bulkD_bd (cs := d.cs) (op := d.op) hb
 have hmem := fun c (h : c ∈ clsOf d.cs p) => bulkCs_bd (clsOf_mem h) hbc
 have hll := clsOf_len d.cs p
 obtain ⟨xs, hxs⟩ : ∃ xs, xs = clsOf d.cs p := ⟨_, rfl⟩
 unfold callsOf at hcl ⊢
 rw [← hxs] at hcl hw2 hmem hll ⊢
 refine OCall_of (n := 32) Tryz.func19 rfl rfl (Nat.le_of_ble_eq_true rfl) fun C0 hdm hT0 => ?_
 have hX0 := CExt.refl C0
 have hT := hT0
 refine AC_seq fun K1 hK1 => ?_
 refine AC_region ?_
 refine AL_box (Lay.st [.one, .one]) (nf rfl) rfl (by rfl) _ rfl rfl ?_
 refine AL_ev (Ev_assign) rfl ?_
 refine AL_nil ?_
 refine hK1 _ _ _ ?_
 refine AC_seq fun K2 hK2 => ?_
 refine AC_region ?_
 refine AL_ev (Ev_assign) rfl ?_
 refine AL_nil ?_
 refine hK2 _ _ _ ?_
 refine AC_seq fun K3 hK3 => ?_
 refine AC_seq fun K4 hK4 => ?_
 refine AC_region ?_
 refine AL_ev (Ev_load_ptr rfl rfl rfl rfl rfl rfl ts27 ta27 (by rfl) (by intro h; cases h)) rfl ?_
 refine AL_ev (Ev_move) rfl ?_
 refine AL_fcall0 hT rfl cl54 (hxs ▸ c_clausesOf d p (by omega)) rfl rfl ?_
 refine AL_lim (x := (Operand.tmp 12)) rfl fun hl1 => ?_
 try simp only [injs_length, ints_length, strs_length, injCs_length, u8s_length, List.length_map] at hl1
 refine AL_ev (Ev_len_injCs te24 rfl) rfl ?_
 refine AL_ev (Ev_move) rfl ?_
 refine AL_nil ?_
 refine hK4 _ _ _ ?_
 refine AC_block ?_
 refine AC_loopS [12, 13] (Nat × List ByteArray) (fun ⟨j, out⟩ => [(14, i64 j), (5, .ref .one 0 0 (strs out).length)]) (fun ⟨j, out⟩ => [some ⟨9, .one, (strs out).map V.d⟩]) (fun st => xs.length - st.1) (fun ⟨j, out⟩ => j ≤ xs.length ∧ (callsL xs [] = callsL (xs.drop j) out ∧ out.length + wC (xs.drop j) ≤ 2097152)) ((0, [])) ?_ ?_ ?_
 ·refine Wk.then (Wk_nil_slot 5 9 .one rfl 1 rfl ?_)
  exact enterS [some 1] rfl rfl (BxTo_some rfl rfl rfl rfl (by exact .nil) BxTo_nil) (SlTo_cons (by exact .rd .d) (SlTo_cons (Vw_refe rfl (by rfl)) (SlTo_cons (by exact .rd .d) (SlTo_cons (by exact .rd .d) SlTo_nil))))
 ·exact ⟨Nat.zero_le _, by simp, by simp; omega⟩
 rintro ⟨j, out⟩ ⟨hj, ⟨hI, ho⟩⟩
 show AC _ _ _ _ _ (FS [12, 13] _ [(14, i64 j), (5, .ref .one 0 0 (strs out).length)]) [some ⟨9, .one, (strs out).map V.d⟩]
 refine AC_seq fun K5 hK5 => ?_
 refine AC_region ?_
 refine AL_ev (Ev_lss rfl rfl) rfl ?_
 refine AL_nil ?_
 refine hK5 _ _ _ ?_
 refine AC_seq fun K6 hK6 => ?_
 refine AC_cond rfl (fun hc1 => ?_) (fun hc1 => ?_)
 ·have hlt : j < xs.length := by simpa using hc1
  obtain ⟨u, hu⟩ : ∃ x, xs[j]? = some x := ⟨_, List.getElem?_eq_getElem hlt⟩
  have hu2 := injCs_get hu
  have hdr := drop_get hu
  obtain ⟨_, hbu, _⟩ := hmem u (List.mem_of_getElem? hu)
  rw [hdr] at hI ho
  rw [callsL] at hI
  rw [wC] at ho
  refine AC_skip ?_
  refine hK6 _ _ _ ?_
  refine AC_seq fun K7 hK7 => ?_
  refine AC_block ?_
  refine AC_seq fun K8 hK8 => ?_
  refine AC_region ?_
  refine AL_ev (Ev_ix_sl rfl rfl te24 ts54 (by omega) (by assumption)) rfl ?_
  refine AL_ev (Ev_load_rp rfl rfl rfl ts54 ta54 (by rfl) (by intro h; cases h)) rfl ?_
  refine AL_alloc zo54 _ rfl rfl ?_
  refine AL_store rfl (nf rfl) rfl rfl rfl rfl rfl rfl (by rfl) ts54 rfl rfl ?_
  refine AL_nil ?_
  refine hK8 _ _ _ ?_
  refine AC_seq fun K9 hK9 => ?_
  refine AC_region ?_
  refine AL_ev (Ev_fa_ptr rfl fa54_1 rfl rfl) rfl ?_
  refine AL_ev (Ev_load_ptr rfl rfl rfl rfl rfl rfl ts41 ta41 (by simp) (by intro h; cases h)) rfl ?_
  refine AL_fcall0 hT rfl cl27 ((c_callsIn u.b (by omega)).pcall) rfl rfl ?_
  refine AL_lim (x := (Operand.tmp 20)) rfl fun hl2 => ?_
  try simp only [injs_length, ints_length, strs_length, injCs_length, u8s_length, List.length_map] at hl2
  refine AL_ev (Ev_len_strs te25 rfl) rfl ?_
  refine AL_ev (Ev_move) rfl ?_
  refine AL_nil ?_
  refine hK9 _ _ _ ?_
  refine AC_block ?_
  refine AC_loopS [12, 13, 14, 20, 21] (Nat × List ByteArray) (fun ⟨i, ou2⟩ => [(22, i64 i), (5, .ref .one 0 0 (strs ou2).length)]) (fun ⟨i, ou2⟩ => [some ⟨9, .one, (strs ou2).map V.d⟩]) (fun st => (callsIn u.b).length - st.1) (fun ⟨i, ou2⟩ => i ≤ (callsIn u.b).length ∧ (addAll out (callsIn u.b) = addAll ou2 ((callsIn u.b).drop i) ∧ ou2.length + ((callsIn u.b).drop i).length + wC (xs.drop (j + 1)) ≤ 2097152)) ((0, out)) ?_ ?_ ?_
  ·exact enterS [some 0] rfl rfl (BxTo_some rfl rfl rfl rfl (by exact VwL_dd (by rfl)) BxTo_nil) (SlTo_cons (by exact .rd .d) (SlTo_cons (Vw_refe rfl (by rfl)) (SlTo_cons (by exact .rd .d) (SlTo_cons (by exact .rd .d) (SlTo_cons (by exact .rd .d) (SlTo_cons (by exact .rd .d) (SlTo_cons (by exact .rd .d) SlTo_nil)))))))
  ·exact ⟨Nat.zero_le _, by simp, by simp; omega⟩
  rintro ⟨i, ou2⟩ ⟨hj, ⟨hI2, ho2⟩⟩
  show AC _ _ _ _ _ (FS [12, 13, 14, 20, 21] _ [(22, i64 i), (5, .ref .one 0 0 (strs ou2).length)]) [some ⟨9, .one, (strs ou2).map V.d⟩]
  refine AC_seq fun K10 hK10 => ?_
  refine AC_region ?_
  refine AL_ev (Ev_lss rfl rfl) rfl ?_
  refine AL_nil ?_
  refine hK10 _ _ _ ?_
  refine AC_seq fun K11 hK11 => ?_
  refine AC_cond rfl (fun hc2 => ?_) (fun hc2 => ?_)
  ·have hlt : i < (callsIn u.b).length := by simpa using hc2
   obtain ⟨v, hu⟩ : ∃ x, (callsIn u.b)[i]? = some x := ⟨_, List.getElem?_eq_getElem hlt⟩
   have hu2 := strs_get hu
   have hdr := drop_get hu
   rw [hdr] at hI2 ho2
   rw [addAll] at hI2
   rw [List.length_cons] at ho2
   have hol := onceL_len ou2 v
   refine AC_skip ?_
   refine hK11 _ _ _ ?_
   refine AC_seq fun K12 hK12 => ?_
   refine AC_block ?_
   refine AC_seq fun K13 hK13 => ?_
   refine AC_region ?_
   refine AL_ev (Ev_ix_sl rfl rfl te25 ts9 (by omega) (by assumption)) rfl ?_
   refine AL_ev (Ev_load_rp rfl rfl rfl ts9 ta9 rfl (fun _ => rfl)) rfl ?_
   refine AL_ev (Ev_assign) rfl ?_
   refine AL_nil ?_
   refine hK13 _ _ _ ?_
   refine AC_region ?_
   refine AL_ev (Ev_move) rfl ?_
   refine AL_ev (Ev_move) rfl ?_
   refine AL_bcall hT _ _ [] rfl cl52 rfl rfl rfl rfl (c_once ou2 v (by omega)) rfl rfl (by rfl) _ rfl rfl ?_
   refine AL_ev (Ev_assign) rfl ?_
   refine AL_nil ?_
   refine hK12 _ _ _ ?_
   refine AC_region ?_
   refine AL_ev (Ev_add rfl rfl _ (wrap_id (by omega) (by omega))) rfl ?_
   refine AL_ev (Ev_move) rfl ?_
   refine AL_nil ?_
   refine closeS (i + 1, onceL ou2 v) [some 1] rfl rfl (by show (callsIn u.b).length - (i + 1) < (callsIn u.b).length - i; omega) ⟨hlt, ?_⟩ (BxTo_some rfl rfl rfl rfl (by exact VwL_dd (by rfl)) BxTo_nil) (SlTo_cons (by exact .rd .d) (SlTo_cons (Vw_refe rfl (by rfl)) (SlTo_cons (by exact .rd .d) (SlTo_cons (by exact .rd .d) (SlTo_cons (by exact .rd .d) (SlTo_cons (by exact .rd .d) (SlTo_cons (by exact .rd .d) SlTo_nil)))))))
   exact ⟨hI2, by omega⟩
  ·have hj2 : i = (callsIn u.b).length := by
    have : ¬ i < (callsIn u.b).length := by simpa using hc2
    omega
   subst hj2
   refine AC_exit ?_
   refine hK7 _ _ _ ?_
   refine AC_region ?_
   refine AL_ev (Ev_add rfl rfl _ (wrap_id (by omega) (by omega))) rfl ?_
   refine AL_ev (Ev_move) rfl ?_
   refine AL_nil ?_
   refine closeS (j + 1, ou2) [some 0] rfl rfl (by show xs.length - (j + 1) < xs.length - j; omega) ⟨hlt, ?_⟩ (BxTo_some rfl rfl rfl rfl (by exact VwL_dd (by rfl)) BxTo_nil) (SlTo_cons (by exact .rd .d) (SlTo_cons (Vw_refe rfl (by rfl)) (SlTo_cons (by exact .rd .d) (SlTo_cons (by exact .rd .d) SlTo_nil))))
   rw [List.drop_length, addAll] at hI2
   rw [List.drop_length] at ho2
   exact ⟨by rw [hI, hI2], by simp at ho2; omega⟩
 ·have hj2 : j = xs.length := by
   have : ¬ j < xs.length := by simpa using hc1
   omega
  subst hj2
  rw [List.drop_length] at hI
  refine AC_exit ?_
  refine hK3 _ _ _ ?_
  refine AC_seq fun K14 hK14 => ?_
  refine AC_region ?_
  refine AL_ev (Ev_move) rfl ?_
  refine AL_ev (Ev_assign) rfl ?_
  refine AL_nil ?_
  refine hK14 _ _ _ ?_
  refine AC_ret ?_
  rw [callsL] at hI
  rw [hI]
  refine reto_ok hX0 hdm (.tmp rfl rfl .nil) (.ref rfl rfl (by simp) (OwVs_strs (by simp)) (by simp)) rfl rfl
end Go.Proofs.YtjgliechbnommaaGreatDoor
set_option linter.unusedVariables false
set_option linter.unusedSimpArgs false
namespace Go.Proofs.YtjgliechbnommaaGreatDoor
open Go.Eng
theorem cl19 : Callable Tryz.prog 19 := Callable_of Tryz.func19 (by kernel_rfl) (by kernel_rfl)
set_option maxHeartbeats 1000000 in
set_option maxRecDepth 4000 in
theorem c_callsOfN (d : Dbt) (p : ByteArray) (hb : bulkD d ≤ 1048576) : NCall Tryz.prog 19 [injD d, .c (.string p)] 9 (callsOf d p) := by
 have hcl := callsOf_len d p
 have hw := wC_bulk d.cs
 have hw2 := wC_clsOf d.cs p
 obtain ⟨hnc, hbc, hno, hbo⟩ := bulkD_bd (cs := d.cs) (op := d.op) hb
 have hmem := fun c (h : c ∈ clsOf d.cs p) => bulkCs_bd (clsOf_mem h) hbc
 have hll := clsOf_len d.cs p
 obtain ⟨xs, hxs⟩ : ∃ xs, xs = clsOf d.cs p := ⟨_, rfl⟩
 unfold callsOf at hcl ⊢
 rw [← hxs] at hcl hw2 hmem hll ⊢
 refine NCall_of (n := 32) Tryz.func19 rfl rfl (Nat.le_of_ble_eq_true rfl) fun C hdm hT => ?_
 refine AC_seq fun K1 hK1 => ?_
 refine AC_region ?_
 refine AL_box (Lay.st [.one, .one]) (nf rfl) rfl (by rfl) _ rfl rfl ?_
 refine AL_ev (Ev_assign) rfl ?_
 refine AL_nil ?_
 refine hK1 _ _ _ ?_
 refine AC_seq fun K2 hK2 => ?_
 refine AC_region ?_
 refine AL_ev (Ev_assign) rfl ?_
 refine AL_nil ?_
 refine hK2 _ _ _ ?_
 refine AC_seq fun K3 hK3 => ?_
 refine AC_seq fun K4 hK4 => ?_
 refine AC_region ?_
 refine AL_ev (Ev_load_ptr rfl rfl rfl rfl rfl rfl ts27 ta27 (by rfl) (by intro h; cases h)) rfl ?_
 refine AL_ev (Ev_move) rfl ?_
 refine AL_fcall0 hT rfl cl54 (hxs ▸ c_clausesOf d p (by omega)) rfl rfl ?_
 refine AL_lim (x := (Operand.tmp 12)) rfl fun hl1 => ?_
 try simp only [injs_length, ints_length, strs_length, injCs_length, u8s_length, List.length_map] at hl1
 refine AL_ev (Ev_len_injCs te24 rfl) rfl ?_
 refine AL_ev (Ev_move) rfl ?_
 refine AL_nil ?_
 refine hK4 _ _ _ ?_
 refine AC_block ?_
 refine AC_loopS [12, 13] (Nat × List ByteArray) (fun ⟨j, out⟩ => [(14, i64 j), (5, .ref .one 0 0 (strs out).length)]) (fun ⟨j, out⟩ => [some ⟨9, .one, (strs out).map V.d⟩]) (fun st => xs.length - st.1) (fun ⟨j, out⟩ => j ≤ xs.length ∧ (callsL xs [] = callsL (xs.drop j) out ∧ out.length + wC (xs.drop j) ≤ 2097152)) ((0, [])) ?_ ?_ ?_
 ·refine Wk.then (Wk_nil_slot 5 9 .one rfl 1 rfl ?_)
  exact enterS [some 1] rfl rfl (BxTo_some rfl rfl rfl rfl (by exact .nil) BxTo_nil) (SlTo_cons (by exact .rd .d) (SlTo_cons (Vw_refe rfl (by rfl)) (SlTo_cons (by exact .rd .d) (SlTo_cons (by exact .rd .d) SlTo_nil))))
 ·exact ⟨Nat.zero_le _, by simp, by simp; omega⟩
 rintro ⟨j, out⟩ ⟨hj, ⟨hI, ho⟩⟩
 show AC _ _ _ _ _ (FS [12, 13] _ [(14, i64 j), (5, .ref .one 0 0 (strs out).length)]) [some ⟨9, .one, (strs out).map V.d⟩]
 refine AC_seq fun K5 hK5 => ?_
 refine AC_region ?_
 refine AL_ev (Ev_lss rfl rfl) rfl ?_
 refine AL_nil ?_
 refine hK5 _ _ _ ?_
 refine AC_seq fun K6 hK6 => ?_
 refine AC_cond rfl (fun hc1 => ?_) (fun hc1 => ?_)
 ·have hlt : j < xs.length := by simpa using hc1
  obtain ⟨u, hu⟩ : ∃ x, xs[j]? = some x := ⟨_, List.getElem?_eq_getElem hlt⟩
  have hu2 := injCs_get hu
  have hdr := drop_get hu
  obtain ⟨_, hbu, _⟩ := hmem u (List.mem_of_getElem? hu)
  rw [hdr] at hI ho
  rw [callsL] at hI
  rw [wC] at ho
  refine AC_skip ?_
  refine hK6 _ _ _ ?_
  refine AC_seq fun K7 hK7 => ?_
  refine AC_block ?_
  refine AC_seq fun K8 hK8 => ?_
  refine AC_region ?_
  refine AL_ev (Ev_ix_sl rfl rfl te24 ts54 (by omega) (by assumption)) rfl ?_
  refine AL_ev (Ev_load_rp rfl rfl rfl ts54 ta54 (by rfl) (by intro h; cases h)) rfl ?_
  refine AL_alloc zo54 _ rfl rfl ?_
  refine AL_store rfl (nf rfl) rfl rfl rfl rfl rfl rfl (by rfl) ts54 rfl rfl ?_
  refine AL_nil ?_
  refine hK8 _ _ _ ?_
  refine AC_seq fun K9 hK9 => ?_
  refine AC_region ?_
  refine AL_ev (Ev_fa_ptr rfl fa54_1 rfl rfl) rfl ?_
  refine AL_ev (Ev_load_ptr rfl rfl rfl rfl rfl rfl ts41 ta41 (by simp) (by intro h; cases h)) rfl ?_
  refine AL_fcall0 hT rfl cl27 ((c_callsIn u.b (by omega)).pcall) rfl rfl ?_
  refine AL_lim (x := (Operand.tmp 20)) rfl fun hl2 => ?_
  try simp only [injs_length, ints_length, strs_length, injCs_length, u8s_length, List.length_map] at hl2
  refine AL_ev (Ev_len_strs te25 rfl) rfl ?_
  refine AL_ev (Ev_move) rfl ?_
  refine AL_nil ?_
  refine hK9 _ _ _ ?_
  refine AC_block ?_
  refine AC_loopS [12, 13, 14, 20, 21] (Nat × List ByteArray) (fun ⟨i, ou2⟩ => [(22, i64 i), (5, .ref .one 0 0 (strs ou2).length)]) (fun ⟨i, ou2⟩ => [some ⟨9, .one, (strs ou2).map V.d⟩]) (fun st => (callsIn u.b).length - st.1) (fun ⟨i, ou2⟩ => i ≤ (callsIn u.b).length ∧ (addAll out (callsIn u.b) = addAll ou2 ((callsIn u.b).drop i) ∧ ou2.length + ((callsIn u.b).drop i).length + wC (xs.drop (j + 1)) ≤ 2097152)) ((0, out)) ?_ ?_ ?_
  ·exact enterS [some 0] rfl rfl (BxTo_some rfl rfl rfl rfl (by exact VwL_dd (by rfl)) BxTo_nil) (SlTo_cons (by exact .rd .d) (SlTo_cons (Vw_refe rfl (by rfl)) (SlTo_cons (by exact .rd .d) (SlTo_cons (by exact .rd .d) (SlTo_cons (by exact .rd .d) (SlTo_cons (by exact .rd .d) (SlTo_cons (by exact .rd .d) SlTo_nil)))))))
  ·exact ⟨Nat.zero_le _, by simp, by simp; omega⟩
  rintro ⟨i, ou2⟩ ⟨hj, ⟨hI2, ho2⟩⟩
  show AC _ _ _ _ _ (FS [12, 13, 14, 20, 21] _ [(22, i64 i), (5, .ref .one 0 0 (strs ou2).length)]) [some ⟨9, .one, (strs ou2).map V.d⟩]
  refine AC_seq fun K10 hK10 => ?_
  refine AC_region ?_
  refine AL_ev (Ev_lss rfl rfl) rfl ?_
  refine AL_nil ?_
  refine hK10 _ _ _ ?_
  refine AC_seq fun K11 hK11 => ?_
  refine AC_cond rfl (fun hc2 => ?_) (fun hc2 => ?_)
  ·have hlt : i < (callsIn u.b).length := by simpa using hc2
   obtain ⟨v, hu⟩ : ∃ x, (callsIn u.b)[i]? = some x := ⟨_, List.getElem?_eq_getElem hlt⟩
   have hu2 := strs_get hu
   have hdr := drop_get hu
   rw [hdr] at hI2 ho2
   rw [addAll] at hI2
   rw [List.length_cons] at ho2
   have hol := onceL_len ou2 v
   refine AC_skip ?_
   refine hK11 _ _ _ ?_
   refine AC_seq fun K12 hK12 => ?_
   refine AC_block ?_
   refine AC_seq fun K13 hK13 => ?_
   refine AC_region ?_
   refine AL_ev (Ev_ix_sl rfl rfl te25 ts9 (by omega) (by assumption)) rfl ?_
   refine AL_ev (Ev_load_rp rfl rfl rfl ts9 ta9 rfl (fun _ => rfl)) rfl ?_
   refine AL_ev (Ev_assign) rfl ?_
   refine AL_nil ?_
   refine hK13 _ _ _ ?_
   refine AC_region ?_
   refine AL_ev (Ev_move) rfl ?_
   refine AL_ev (Ev_move) rfl ?_
   refine AL_bcall hT _ _ [] rfl cl52 rfl rfl rfl rfl (c_once ou2 v (by omega)) rfl rfl (by rfl) _ rfl rfl ?_
   refine AL_ev (Ev_assign) rfl ?_
   refine AL_nil ?_
   refine hK12 _ _ _ ?_
   refine AC_region ?_
   refine AL_ev (Ev_add rfl rfl _ (wrap_id (by omega) (by omega))) rfl ?_
   refine AL_ev (Ev_move) rfl ?_
   refine AL_nil ?_
   refine closeS (i + 1, onceL ou2 v) [some 1] rfl rfl (by show (callsIn u.b).length - (i + 1) < (callsIn u.b).length - i; omega) ⟨hlt, ?_⟩ (BxTo_some rfl rfl rfl rfl (by exact VwL_dd (by rfl)) BxTo_nil) (SlTo_cons (by exact .rd .d) (SlTo_cons (Vw_refe rfl (by rfl)) (SlTo_cons (by exact .rd .d) (SlTo_cons (by exact .rd .d) (SlTo_cons (by exact .rd .d) (SlTo_cons (by exact .rd .d) (SlTo_cons (by exact .rd .d) SlTo_nil)))))))
   exact ⟨hI2, by omega⟩
  ·have hj2 : i = (callsIn u.b).length := by
    have : ¬ i < (callsIn u.b).length := by simpa using hc2
    omega
   subst hj2
   refine AC_exit ?_
   refine hK7 _ _ _ ?_
   refine AC_region ?_
   refine AL_ev (Ev_add rfl rfl _ (wrap_id (by omega) (by omega))) rfl ?_
   refine AL_ev (Ev_move) rfl ?_
   refine AL_nil ?_
   refine closeS (j + 1, ou2) [some 0] rfl rfl (by show xs.length - (j + 1) < xs.length - j; omega) ⟨hlt, ?_⟩ (BxTo_some rfl rfl rfl rfl (by exact VwL_dd (by rfl)) BxTo_nil) (SlTo_cons (by exact .rd .d) (SlTo_cons (Vw_refe rfl (by rfl)) (SlTo_cons (by exact .rd .d) (SlTo_cons (by exact .rd .d) SlTo_nil))))
   rw [List.drop_length, addAll] at hI2
   rw [List.drop_length] at ho2
   exact ⟨by rw [hI, hI2], by simp at ho2; omega⟩
 ·have hj2 : j = xs.length := by
   have : ¬ j < xs.length := by simpa using hc1
   omega
  subst hj2
  rw [List.drop_length] at hI
  refine AC_exit ?_
  refine hK3 _ _ _ ?_
  refine AC_seq fun K14 hK14 => ?_
  refine AC_region ?_
  refine AL_ev (Ev_move) rfl ?_
  refine AL_ev (Ev_assign) rfl ?_
  refine AL_nil ?_
  refine hK14 _ _ _ ?_
  refine AC_ret ?_
  rw [callsL] at hI
  rw [hI]
  exact retn_ok hdm (.tmp rfl rfl .nil) rfl (by rfl) (by simp)
set_option maxHeartbeats 1000000 in
set_option maxRecDepth 4000 in
theorem c_reachedFromN (d : Dbt) (p : ByteArray) (hb : bulkD d ≤ 1048576) : NCall Tryz.prog 18 [injD d, .c (.string p)] 9 (reachedFrom d p) := by
 have hw := wC_bulk d.cs
 obtain ⟨hnc, hbc, hno, hbo⟩ := bulkD_bd (cs := d.cs) (op := d.op) hb
 have hst := OkR.start d p
 refine NCall_of (n := 34) Tryz.func18 rfl rfl (Nat.le_of_ble_eq_true rfl) fun C hdm hT => ?_
 refine AC_seq fun K1 hK1 => ?_
 refine AC_region ?_
 refine AL_box (Lay.st [.one, .one]) (nf rfl) rfl (by rfl) _ rfl rfl ?_
 refine AL_ev (Ev_assign) rfl ?_
 refine AL_nil ?_
 refine hK1 _ _ _ ?_
 refine AC_seq fun K2 hK2 => ?_
 refine AC_region ?_
 refine AL_ev (Ev_load_ptr rfl rfl rfl rfl rfl rfl ts27 ta27 (by rfl) (by intro h; cases h)) rfl ?_
 refine AL_ev (Ev_move) rfl ?_
 refine AL_nlcall hT rfl cl19 (c_callsOfN d p hb) rfl _ rfl rfl ?_
 refine AL_ev (Ev_assign) rfl ?_
 refine AL_nil ?_
 refine hK2 _ _ _ ?_
 refine AC_seq fun K3 hK3 => ?_
 refine AC_seq fun K4 hK4 => ?_
 refine AC_region ?_
 refine AL_ev (Ev_assign) rfl ?_
 refine AL_nil ?_
 refine hK4 _ _ _ ?_
 refine AC_block ?_
 refine AC_loopS [] (Nat × List ByteArray) (fun ⟨i, out⟩ => [(6, i64 i), (5, .ref .one 0 0 (strs out).length), (2, .d (.rp (Lay.st [.one, .one]) (injD d) []))]) (fun ⟨i, out⟩ => [some ⟨9, .one, (strs out).map V.d⟩]) (fun st => wC d.cs + 1 - st.1) (fun ⟨i, out⟩ => (reachedFrom d p = reachG d (wC d.cs - i) i out ∧ OkR d out ∧ i ≤ out.length)) ((0, callsOf d p)) ?_ ?_ ?_
 ·exact enterS [some 2] rfl rfl (BxTo_some rfl rfl rfl rfl (by exact VwL_dd (by rfl)) BxTo_nil) (SlTo_cons (by exact .rd .d) (SlTo_cons (Vw_refe rfl (by simp)) (SlTo_cons (by exact .rd (.ptr (srcFree rfl) rfl rfl rfl .d)) SlTo_nil)))
 ·exact ⟨rfl, hst, Nat.zero_le _⟩
 rintro ⟨i, out⟩ ⟨hI, hK, hi⟩
 show AC _ _ _ _ _ (FS [] _ [(6, i64 i), (5, .ref .one 0 0 (strs out).length), (2, .d (.rp (Lay.st [.one, .one]) (injD d) []))]) [some ⟨9, .one, (strs out).map V.d⟩]
 have hKl := hK.len
 refine AC_seq fun K5 hK5 => ?_
 refine AC_seq fun K6 hK6 => ?_
 refine AC_region ?_
 refine AL_ev (Ev_move) rfl ?_
 refine AL_ev (Ev_move) rfl ?_
 refine AL_limB (x := (Operand.tmp 13)) rfl rfl (by (simp; done)) fun hl1 => ?_
 try simp only [injs_length, ints_length, strs_length, injCs_length, u8s_length, List.length_map] at hl1
 refine AL_ev (Ev_len_ref te25 rfl) rfl ?_
 refine AL_ev (Ev_lss rfl rfl) rfl ?_
 refine AL_nil ?_
 refine hK6 _ _ _ ?_
 refine AC_cond rfl (fun hc1 => ?_) (fun hc1 => ?_)
 ·have hlt0 : i < out.length := by simpa using hc1
  have hcu := fun u => callsOf_len d u
  obtain ⟨u, hou⟩ : ∃ u, out[i]? = some u := ⟨_, List.getElem?_eq_getElem hlt0⟩
  have hu2 := strs_get hou
  have hcu := hcu u
  have hes : ((strs out).map V.d)[0 + ((i : Nat) : Int).toNat]? = some (.d (.c (.string u))) := by rw [Int.toNat_natCast, Nat.zero_add, List.getElem?_map, hu2]; rfl
  refine AC_skip ?_
  refine hK5 _ _ _ ?_
  refine AC_seq fun K7 hK7 => ?_
  refine AC_block ?_
  refine AC_seq fun K8 hK8 => ?_
  refine AC_draw hT follows [0, 1, 2, 3, 4, 5, 6, 7] (by kernel_rfl) ?_
  refine DT_ev rfl (EA_load_rp rfl rfl rfl ts27 ta27 (by rfl) (by intro h; cases h)) rfl ?_
  refine DT_ev rfl (EA_move) rfl ?_
  refine DT_ev rfl (EA_move) rfl ?_
  refine DT_ev rfl (EA_ix_ref rfl rfl te25 ts9 (by omega) (by (simp; omega))) rfl ?_
  refine DT_ev rfl (EA_load_ptr rfl rfl rfl hes rfl rfl ts9 ta9 rfl (fun _ => rfl)) rfl ?_
  refine DT_fcall0 rfl rfl cl19 ((c_callsOf d u hb).pcall) rfl rfl ?_
  refine DT_ev rfl (EA_len_strs te25 rfl) rfl ?_
  refine DT_ev rfl (EA_move) rfl ?_
  refine DTi.nil ?_
  refine hK8 _ _ _ ?_
  refine AC_block ?_
  refine AC_loopS [2, 6, 23, 24] (Nat × List ByteArray) (fun ⟨j, ou2⟩ => [(25, i64 j), (5, .ref .one 0 0 (strs ou2).length)]) (fun ⟨j, ou2⟩ => [some ⟨9, .one, (strs ou2).map V.d⟩]) (fun st => (callsOf d u).length - st.1) (fun ⟨j, ou2⟩ => j ≤ (callsOf d u).length ∧ (addAll out (callsOf d u) = addAll ou2 ((callsOf d u).drop j) ∧ OkR d ou2 ∧ out.length ≤ ou2.length)) ((0, out)) ?_ ?_ ?_
  ·exact enterS [some 0] rfl rfl (BxTo_some rfl rfl rfl rfl (by exact VwL_dd (by rfl)) BxTo_nil) (SlTo_cons (by exact .rd .d) (SlTo_cons (Vw_refe rfl (by rfl)) (SlTo_cons (by exact .rd .d) (SlTo_cons (by exact .rd .d) (SlTo_cons (by exact .rd .d) (SlTo_cons (by exact .rd .d) SlTo_nil))))))
  ·exact ⟨Nat.zero_le _, by simp, hK, Nat.le_refl _⟩
  rintro ⟨j, ou2⟩ ⟨hj, ⟨hI2, hK2, ho2⟩⟩
  show AC _ _ _ _ _ (FS [2, 6, 23, 24] _ [(25, i64 j), (5, .ref .one 0 0 (strs ou2).length)]) [some ⟨9, .one, (strs ou2).map V.d⟩]
  refine AC_seq fun K9 hK9 => ?_
  refine AC_region ?_
  refine AL_ev (Ev_lss rfl rfl) rfl ?_
  refine AL_nil ?_
  refine hK9 _ _ _ ?_
  refine AC_seq fun K10 hK10 => ?_
  refine AC_cond rfl (fun hc2 => ?_) (fun hc2 => ?_)
  ·have hlt : j < (callsOf d u).length := by simpa using hc2
   obtain ⟨v, hu⟩ : ∃ x, (callsOf d u)[j]? = some x := ⟨_, List.getElem?_eq_getElem hlt⟩
   have hu2 := strs_get hu
   have hdr := drop_get hu
   rw [hdr] at hI2
   rw [addAll] at hI2
   have hKl2 := hK2.len
   have hol : ou2.length ≤ (onceL ou2 v).length := by unfold onceL; split <;> simp
   refine AC_skip ?_
   refine hK10 _ _ _ ?_
   refine AC_seq fun K11 hK11 => ?_
   refine AC_block ?_
   refine AC_seq fun K12 hK12 => ?_
   refine AC_region ?_
   refine AL_ev (Ev_ix_sl rfl rfl te25 ts9 (by omega) (by assumption)) rfl ?_
   refine AL_ev (Ev_load_rp rfl rfl rfl ts9 ta9 rfl (fun _ => rfl)) rfl ?_
   refine AL_ev (Ev_assign) rfl ?_
   refine AL_nil ?_
   refine hK12 _ _ _ ?_
   refine AC_region ?_
   refine AL_ev (Ev_move) rfl ?_
   refine AL_ev (Ev_move) rfl ?_
   refine AL_bcall hT _ _ [] rfl cl52 rfl rfl rfl rfl (c_once ou2 v (by omega)) rfl rfl (by rfl) _ rfl rfl ?_
   refine AL_ev (Ev_assign) rfl ?_
   refine AL_nil ?_
   refine hK11 _ _ _ ?_
   refine AC_region ?_
   refine AL_ev (Ev_add rfl rfl _ (wrap_id (by omega) (by omega))) rfl ?_
   refine AL_ev (Ev_move) rfl ?_
   refine AL_nil ?_
   refine closeS (j + 1, onceL ou2 v) [some 1] rfl rfl (by show (callsOf d u).length - (j + 1) < (callsOf d u).length - j; omega) ⟨hlt, ?_⟩ (BxTo_some rfl rfl rfl rfl (by exact VwL_dd (by rfl)) BxTo_nil) (SlTo_cons (by exact .rd .d) (SlTo_cons (Vw_refe rfl (by rfl)) (SlTo_cons (by exact .rd .d) (SlTo_cons (by exact .rd .d) (SlTo_cons (by exact .rd .d) (SlTo_cons (by exact .rd .d) SlTo_nil))))))
   exact ⟨hI2, hK2.once (callsOf_sub (List.mem_of_getElem? hu)), by omega⟩
  ·have hj2 : j = (callsOf d u).length := by
    have : ¬ j < (callsOf d u).length := by simpa using hc2
    omega
   subst hj2
   refine AC_exit ?_
   refine hK7 _ _ _ ?_
   refine AC_region ?_
   refine AL_ev (Ev_move) rfl ?_
   refine AL_ev (Ev_add rfl rfl _ (wrap_id (by omega) (by omega))) rfl ?_
   refine AL_ev (Ev_assign) rfl ?_
   refine AL_nil ?_
   refine closeS (i + 1, ou2) [some 0] rfl rfl (by show wC d.cs + 1 - (i + 1) < wC d.cs + 1 - i; omega) ?_ (BxTo_some rfl rfl rfl rfl (by exact VwL_dd (by rfl)) BxTo_nil) (SlTo_cons (by exact .rd .d) (SlTo_cons (Vw_refe rfl (by rfl)) (SlTo_cons (by exact .rd .d) SlTo_nil)))
   rw [List.drop_length, addAll] at hI2
   exact ⟨by rw [hI, reachG_step hK hou, hI2], hK2, by omega⟩
 ·have hend : reachedFrom d p = out := hI.trans (reachG_end (by simpa using hc1))
  refine AC_exit ?_
  refine hK3 _ _ _ ?_
  refine AC_seq fun K13 hK13 => ?_
  refine AC_region ?_
  refine AL_ev (Ev_move) rfl ?_
  refine AL_ev (Ev_assign) rfl ?_
  refine AL_nil ?_
  refine hK13 _ _ _ ?_
  refine AC_ret ?_
  rw [hend]
  exact retn_ok hdm (.tmp rfl rfl .nil) rfl (by rfl) (by simp)
end Go.Proofs.YtjgliechbnommaaGreatDoor
set_option linter.unusedVariables false
set_option linter.unusedSimpArgs false
namespace Go.Proofs.YtjgliechbnommaaGreatDoor
open Go.Eng
theorem cl18 : Callable Tryz.prog 18 := Callable_of Tryz.func18 (by kernel_rfl) (by kernel_rfl)
set_option maxHeartbeats 1000000 in
set_option maxRecDepth 4000 in
theorem c_recursive (d : Dbt) (p : ByteArray) (hb : bulkD d ≤ 1048576) : PCall Tryz.prog 21 [injD d, .c (.string p)] (· = [.c (.bool (hasS (reachedFrom d p) p))]) := by
 refine PCall_of (n := 10) Tryz.func21 rfl rfl (Nat.le_of_ble_eq_true rfl) fun C hdm hT0 => ?_
 have hT := hT0
 refine AC_seq fun K1 hK1 => ?_
 refine AC_region ?_
 refine AL_box (Lay.st [.one, .one]) (nf rfl) rfl (by rfl) _ rfl rfl ?_
 refine AL_ev (Ev_assign) rfl ?_
 refine AL_nil ?_
 refine hK1 _ _ _ ?_
 refine AC_seq fun K2 hK2 => ?_
 refine AC_region ?_
 refine AL_ev (Ev_load_ptr rfl rfl rfl rfl rfl rfl ts27 ta27 (by rfl) (by intro h; cases h)) rfl ?_
 refine AL_ev (Ev_move) rfl ?_
 refine AL_fcall0 hT rfl cl18 ((c_reachedFromN d p hb).ocall.pcall) rfl rfl ?_
 refine AL_ev (Ev_move) rfl ?_
 refine AL_fcall0 hT rfl cl55 (c_containsS (reachedFrom d p) p) rfl rfl ?_
 refine AL_ev (Ev_assign) rfl ?_
 refine AL_nil ?_
 refine hK2 _ _ _ ?_
 refine AC_ret ?_
 exact ret_ok hdm (.tmp rfl rfl .nil) (.cons .d .nil) rfl
end Go.Proofs.YtjgliechbnommaaGreatDoor
set_option linter.unusedVariables false
set_option linter.unusedSimpArgs false
namespace Go.Proofs.YtjgliechbnommaaGreatDoor
open Go.Eng
theorem cl16 : Callable Tryz.prog 16 := Callable_of Tryz.func16 (by kernel_rfl) (by kernel_rfl)
theorem cl51 : Callable Tryz.prog 51 := Callable_of Tryz.func51 (by kernel_rfl) (by kernel_rfl)
theorem cl53 : Callable Tryz.prog 53 := Callable_of Tryz.func53 (by kernel_rfl) (by kernel_rfl)
theorem cl75 : Callable Tryz.prog 75 := Callable_of Tryz.func75 (by kernel_rfl) (by kernel_rfl)
theorem cl77 : Callable Tryz.prog 77 := Callable_of Tryz.func77 (by kernel_rfl) (by kernel_rfl)
theorem cl91 : Callable Tryz.prog 91 := Callable_of Tryz.func91 (by kernel_rfl) (by kernel_rfl)
theorem fa27_1 : tyField Tryz.prog 27 1 = some (1, true) := by kernel_rfl
set_option maxHeartbeats 1000000 in
set_option maxRecDepth 4000 in
theorem c_indexF (g : Cl → Bool) (kk : FuncId) (caps : List D) (hcl : Callable Tryz.prog kk) (hna : caps.all (fun d => !d.isAgg) = true) (xs : List Cl) (hto : ∀ c ∈ xs, PCall Tryz.prog kk ([injC c] ++ caps) (· = [.c (.bool (g c))])) : PCall Tryz.prog 77 [.sl LC (injCs xs), .fn kk caps] (· = [.c (.int .i64 (idxF g xs 0))]) := by
 refine PCall_of (n := 19) Tryz.func77 rfl rfl (Nat.le_of_ble_eq_true rfl) fun C hdm hT0 => ?_
 have hT := hT0
 refine AC_seq fun K1 hK1 => ?_
 refine AC_region ?_
 refine AL_ev (Ev_assign) rfl ?_
 refine AL_nil ?_
 refine hK1 _ _ _ ?_
 refine AC_seq fun K2 hK2 => ?_
 refine AC_seq fun K3 hK3 => ?_
 refine AC_region ?_
 refine AL_ev (Ev_move) rfl ?_
 refine AL_lim (x := (Operand.tmp 6)) rfl fun hl1 => ?_
 try simp only [injs_length, ints_length, strs_length, injCs_length, u8s_length, List.length_map] at hl1
 refine AL_ev (Ev_len_injCs te24 rfl) rfl ?_
 refine AL_ev (Ev_move) rfl ?_
 refine AL_nil ?_
 refine hK3 _ _ _ ?_
 refine AC_block ?_
 refine AC_loopS [0, 1, 7] (Nat) (fun j => [(8, i64 j)]) (fun j => []) (fun st => xs.length - st) (fun j => j ≤ xs.length ∧ idxF g xs 0 = idxF g (xs.drop j) j) (0) ?_ ?_ ?_
 ·exact enterS [] rfl rfl BxTo_nil (SlTo_cons (by exact .rd .d) (SlTo_cons (by exact .rd .d) (SlTo_cons (by exact .rd .d) (SlTo_cons (by exact .rd .d) SlTo_nil))))
 ·exact ⟨Nat.zero_le _, by simp⟩
 rintro j ⟨hj, hI⟩
 show AC _ _ _ _ _ (FS [0, 1, 7] _ [(8, i64 j)]) []
 refine AC_seq fun K4 hK4 => ?_
 refine AC_region ?_
 refine AL_ev (Ev_lss rfl rfl) rfl ?_
 refine AL_nil ?_
 refine hK4 _ _ _ ?_
 refine AC_seq fun K5 hK5 => ?_
 refine AC_cond rfl (fun hc1 => ?_) (fun hc1 => ?_)
 ·have hlt : j < xs.length := by simpa using hc1
  obtain ⟨u, hu⟩ : ∃ x, xs[j]? = some x := ⟨_, List.getElem?_eq_getElem hlt⟩
  have hu2 := injCs_get hu
  have hdr := drop_get hu
  refine AC_skip ?_
  refine hK5 _ _ _ ?_
  refine AC_seq fun K6 hK6 => ?_
  refine AC_block ?_
  refine AC_seq fun K7 hK7 => ?_
  refine AC_region ?_
  refine AL_ev (Ev_move) rfl ?_
  refine AL_ev (Ev_assign) rfl ?_
  refine AL_nil ?_
  refine hK7 _ _ _ ?_
  refine AC_seq fun K8 hK8 => ?_
  refine AC_region ?_
  refine AL_ev (Ev_move) rfl ?_
  refine AL_ev (Ev_move) rfl ?_
  refine AL_ev (Ev_move) rfl ?_
  refine AL_ev (Ev_ix_sl rfl rfl te24 ts54 (by omega) (by assumption)) rfl ?_
  refine AL_ev (Ev_load_rp rfl rfl rfl ts54 ta54 (by rfl) (by intro h; cases h)) rfl ?_
  refine AL_fcall hT rfl hna hcl (hto u (List.mem_of_getElem? hu)) rfl rfl ?_
  refine AL_nil ?_
  refine hK8 _ _ _ ?_
  refine AC_cond rfl (fun hc2 => ?_) (fun hc2 => ?_)
  ·refine AC_seq fun K9 hK9 => ?_
   refine AC_region ?_
   refine AL_ev (Ev_move) rfl ?_
   refine AL_ev (Ev_assign) rfl ?_
   refine AL_nil ?_
   refine hK9 _ _ _ ?_
   refine AC_ret ?_
   refine ret_ok hdm (.tmp rfl rfl .nil) (.cons .d .nil) ?_
   try rw [hI]
   try rw [hdr]
   try simp_all [List.length_pos_iff, idxF]
  ·refine AC_skip ?_
   refine hK6 _ _ _ ?_
   refine AC_region ?_
   refine AL_ev (Ev_add rfl rfl _ (wrap_id (by omega) (by omega))) rfl ?_
   refine AL_ev (Ev_move) rfl ?_
   refine AL_nil ?_
   refine closeS (j + 1) [] rfl rfl (by show xs.length - (j + 1) < xs.length - j; omega) ⟨hlt, ?_⟩ BxTo_nil (SlTo_cons (by exact .rd .d) (SlTo_cons (by exact .rd .d) (SlTo_cons (by exact .rd .d) (SlTo_cons (by exact .rd .d) SlTo_nil))))
   rw [hI]
   try rw [hdr]
   try simp_all [idxF]
 ·have hj2 : j = xs.length := by
   have : ¬ j < xs.length := by simpa using hc1
   omega
  subst hj2
  rw [List.drop_length] at hI
  refine AC_exit ?_
  refine hK2 _ _ _ ?_
  refine AC_seq fun K10 hK10 => ?_
  refine AC_region ?_
  refine AL_ev (Ev_assign) rfl ?_
  refine AL_nil ?_
  refine hK10 _ _ _ ?_
  refine AC_ret ?_
  refine ret_ok hdm (.tmp rfl rfl .nil) (.cons .d .nil) ?_
  try rw [hI]
  try simp_all [List.length_pos_iff, idxF]
set_option maxHeartbeats 1000000 in
set_option maxRecDepth 4000 in
theorem c_containsF (g : Cl → Bool) (kk : FuncId) (caps : List D) (hcl : Callable Tryz.prog kk) (hna : caps.all (fun d => !d.isAgg) = true) (xs : List Cl) (hto : ∀ c ∈ xs, PCall Tryz.prog kk ([injC c] ++ caps) (· = [.c (.bool (g c))])) : PCall Tryz.prog 75 [.sl LC (injCs xs), .fn kk caps] (· = [.c (.bool (xs.any g))]) := by
 refine PCall_of (n := 9) Tryz.func75 rfl rfl (Nat.le_of_ble_eq_true rfl) fun C hdm hT0 => ?_
 have hT := hT0
 refine AC_seq fun K1 hK1 => ?_
 refine AC_region ?_
 refine AL_ev (Ev_assign) rfl ?_
 refine AL_nil ?_
 refine hK1 _ _ _ ?_
 refine AC_seq fun K2 hK2 => ?_
 refine AC_region ?_
 refine AL_ev (Ev_move) rfl ?_
 refine AL_ev (Ev_move) rfl ?_
 refine AL_fcall0 hT rfl cl77 (c_indexF g kk caps hcl hna xs hto) rfl rfl ?_
 refine AL_ev (Ev_geq rfl rfl) rfl ?_
 refine AL_ev (Ev_assign) rfl ?_
 refine AL_nil ?_
 refine hK2 _ _ _ ?_
 refine AC_ret ?_
 refine ret_ok hdm (.tmp rfl rfl .nil) (.cons .d .nil) ?_
 rw [idxF_any]
set_option maxHeartbeats 1000000 in
set_option maxRecDepth 4000 in
theorem c_known1 (p : ByteArray) (c : Cl) (hb : bulk c.h ≤ 1099511627776) : PCall Tryz.prog 91 [injC c, .rp .one (.c (.string p)) []] (· = [.c (.bool (decide (predS c.h = p)))]) := by
 obtain ⟨h, b, f⟩ := c
 refine PCall_of (n := 9) Tryz.func91 rfl rfl (Nat.le_of_ble_eq_true rfl) fun C hdm hT0 => ?_
 have hT := hT0
 refine AC_seq fun K1 hK1 => ?_
 refine AC_region ?_
 refine AL_box (Lay.st [(Lay.st [.one, .one, .one, .one]), (Lay.st [.one, .one, .one, .one]), .one]) (nf rfl) rfl (by rfl) _ rfl rfl ?_
 refine AL_ev (Ev_assign) rfl ?_
 refine AL_nil ?_
 refine hK1 _ _ _ ?_
 refine AC_seq fun K2 hK2 => ?_
 refine AC_draw hT follows [0, 1, 2, 3, 4, 5] (by kernel_rfl) ?_
 refine DT_ev rfl (EA_fa_ptr rfl fa54_0 rfl rfl) rfl ?_
 refine DT_ev rfl (EA_load_ptr rfl rfl rfl rfl rfl rfl ts41 ta41 (by simp) (by intro h; cases h)) rfl ?_
 refine DT_fcall0 rfl rfl cl44 (c_predOf h hb) rfl rfl ?_
 refine DT_ev rfl (EA_load_rp rfl rfl rfl ts9 ta9 rfl (fun _ => rfl)) rfl ?_
 refine DT_ev rfl (EA_seql rfl rfl) rfl ?_
 refine DT_ev rfl (EA_assign) rfl ?_
 refine DTi.nil ?_
 refine hK2 _ _ _ ?_
 refine AC_ret ?_
 exact ret_ok hdm (.tmp rfl rfl .nil) (.cons .d .nil) rfl
set_option maxHeartbeats 1000000 in
set_option maxRecDepth 4000 in
theorem c_known (d : Dbt) (p : ByteArray) (hb : bulkD d ≤ 1048576) : PCall Tryz.prog 53 [injD d, .c (.string p)] (· = [.c (.bool (knownB d p))]) := by
 obtain ⟨cs, op⟩ := d
 obtain ⟨hnc, hbc, hno, hbo⟩ := bulkD_bd hb
 refine PCall_of (n := 15) Tryz.func53 rfl rfl (Nat.le_of_ble_eq_true rfl) fun C hdm hT0 => ?_
 have hT := hT0
 refine AC_seq fun K1 hK1 => ?_
 refine AC_region ?_
 refine AL_box (Lay.st [.one, .one]) (nf rfl) rfl (by rfl) _ rfl rfl ?_
 refine AL_box .one (nf rfl) rfl (by rfl) _ rfl rfl ?_
 refine AL_ev (Ev_assign) rfl ?_
 refine AL_nil ?_
 refine hK1 _ _ _ ?_
 refine AC_seq fun K2 hK2 => ?_
 refine AC_wk (Wk_to [] [(2, .d (.rp LD (injD ⟨cs, op⟩) [])), (3, .d (.rp .one (.c (.string p)) []))] [] rfl rfl BxTo_nil (SlTo_cons (by exact .rd (.ptr (srcFree rfl) rfl rfl rfl .d)) (SlTo_cons (by exact .rd (.ptr (srcFree rfl) rfl rfl rfl .d)) SlTo_nil)) ?_)
 refine AC_region ?_
 refine AL_ev (Ev_fa_rp rfl fa27_1 rfl rfl) rfl ?_
 refine AL_ev (Ev_load_rp rfl rfl rfl ts25 ta25 rfl (fun _ => rfl)) rfl ?_
 refine AL_ev (Ev_load_rp rfl rfl rfl ts9 ta9 rfl (fun _ => rfl)) rfl ?_
 refine AL_fcall0 hT rfl cl55 (c_containsS op p) rfl rfl ?_
 refine AL_ev (Ev_move) rfl ?_
 refine AL_bool 9 rfl (fun hg1 => ?_) (fun hg1 => ?_)
 ·refine AL_guard_f rfl rfl rfl rfl ?_
  refine AL_guard_f rfl rfl rfl rfl ?_
  refine AL_guard_f rfl rfl rfl rfl ?_
  refine AL_guard_f rfl rfl rfl rfl ?_
  refine AL_ev (Ev_pick rfl) rfl ?_
  refine AL_ev (Ev_assign) rfl ?_
  refine AL_nil ?_
  refine hK2 _ _ _ ?_
  refine AC_ret ?_
  refine ret_ok hdm (.tmp rfl rfl .nil) (.cons .d .nil) ?_
  simp_all [knownB]
 ·refine AL_guard_t rfl rfl rfl ?_
  refine AL_ev (Ev_fa_rp rfl fa27_0 rfl rfl) rfl ?_
  refine AL_guard_t rfl rfl rfl ?_
  refine AL_ev (Ev_load_rp rfl rfl rfl ts24 ta24 rfl (fun _ => rfl)) rfl ?_
  refine AL_guard_t rfl rfl rfl ?_
  refine AL_ev (Ev_func (ds := [.rp .one (.c (.string p)) []]) rfl rfl) rfl ?_
  refine AL_guard_t rfl rfl rfl ?_
  refine AL_fcall0 hT rfl cl75 (c_containsF (fun c => decide (predS c.h = p)) 91 [.rp .one (.c (.string p)) []] cl91 rfl cs (fun c hc => c_known1 p c (by have := (bulkCs_bd hc hbc).1; omega))) rfl rfl ?_
  refine AL_ev (Ev_pick rfl) rfl ?_
  refine AL_ev (Ev_assign) rfl ?_
  refine AL_nil ?_
  refine hK2 _ _ _ ?_
  refine AC_ret ?_
  refine ret_ok hdm (.tmp rfl rfl .nil) (.cons .d .nil) ?_
  simp_all [knownB]
set_option maxHeartbeats 1000000 in
set_option maxRecDepth 4000 in
theorem c_specKnown (d : Dbt) (p : ByteArray) (hb : bulkD d ≤ 1048576) : PCall Tryz.prog 20 [injD d, .c (.string p)] (· = [.c (.bool (knownB d p))]) := by
 obtain ⟨cs, op⟩ := d
 refine PCall_of (n := 25) Tryz.func20 rfl rfl (Nat.le_of_ble_eq_true rfl) fun C hdm hT0 => ?_
 have hT := hT0
 refine AC_seq fun K1 hK1 => ?_
 refine AC_region ?_
 refine AL_box (Lay.st [.one, .one]) (nf rfl) rfl (by rfl) _ rfl rfl ?_
 refine AL_ev (Ev_assign) rfl ?_
 refine AL_nil ?_
 refine hK1 _ _ _ ?_
 refine AC_seq fun K2 hK2 => ?_
 refine AC_seq fun K3 hK3 => ?_
 refine AC_region ?_
 refine AL_ev (Ev_assign) rfl ?_
 refine AL_nil ?_
 refine hK3 _ _ _ ?_
 refine AC_block ?_
 refine AC_loopS [1] (Nat) (fun j => [(5, i64 j), (2, .d (.rp (Lay.st [.one, .one]) (injD ⟨cs, op⟩) []))]) (fun j => []) (fun st => op.length - st) (fun j => j ≤ op.length ∧ hasS op p = hasS (op.drop j) p) (0) ?_ ?_ ?_
 ·exact enterS [] rfl rfl BxTo_nil (SlTo_cons (by exact .rd .d) (SlTo_cons (by exact .rd (.ptr (srcFree rfl) rfl rfl rfl .d)) (SlTo_cons (by exact .rd .d) SlTo_nil)))
 ·exact ⟨Nat.zero_le _, by simp⟩
 rintro j ⟨hj, hI⟩
 show AC _ _ _ _ _ (FS [1] _ [(5, i64 j), (2, .d (.rp (Lay.st [.one, .one]) (injD ⟨cs, op⟩) []))]) []
 refine AC_seq fun K4 hK4 => ?_
 refine AC_seq fun K5 hK5 => ?_
 refine AC_region ?_
 refine AL_ev (Ev_move) rfl ?_
 refine AL_ev (Ev_fa_rp rfl fa27_1 rfl rfl) rfl ?_
 refine AL_ev (Ev_load_rp rfl rfl rfl ts25 ta25 rfl (fun _ => rfl)) rfl ?_
 refine AL_lim (x := (Operand.tmp 8)) rfl fun hl1 => ?_
 try simp only [injs_length, ints_length, strs_length, injCs_length, u8s_length, List.length_map] at hl1
 refine AL_ev (Ev_len_strs te25 rfl) rfl ?_
 refine AL_ev (Ev_lss rfl rfl) rfl ?_
 refine AL_nil ?_
 refine hK5 _ _ _ ?_
 refine AC_cond rfl (fun hc1 => ?_) (fun hc1 => ?_)
 ·have hlt : j < op.length := by simpa using hc1
  obtain ⟨u, hu⟩ : ∃ x, op[j]? = some x := ⟨_, List.getElem?_eq_getElem hlt⟩
  have hu2 := strs_get hu
  have hdr := drop_get hu
  refine AC_skip ?_
  refine hK4 _ _ _ ?_
  refine AC_seq fun K6 hK6 => ?_
  refine AC_block ?_
  refine AC_seq fun K7 hK7 => ?_
  refine AC_region ?_
  refine AL_ev (Ev_fa_rp rfl fa27_1 rfl rfl) rfl ?_
  refine AL_ev (Ev_load_rp rfl rfl rfl ts25 ta25 rfl (fun _ => rfl)) rfl ?_
  refine AL_ev (Ev_move) rfl ?_
  refine AL_ev (Ev_ix_sl rfl rfl te25 ts9 (by omega) (by assumption)) rfl ?_
  refine AL_ev (Ev_load_rp rfl rfl rfl ts9 ta9 rfl (fun _ => rfl)) rfl ?_
  refine AL_ev (Ev_move) rfl ?_
  refine AL_ev (Ev_seql rfl rfl) rfl ?_
  refine AL_nil ?_
  refine hK7 _ _ _ ?_
  refine AC_cond rfl (fun hc2 => ?_) (fun hc2 => ?_)
  ·refine AC_seq fun K8 hK8 => ?_
   refine AC_region ?_
   refine AL_ev (Ev_assign) rfl ?_
   refine AL_nil ?_
   refine hK8 _ _ _ ?_
   refine AC_ret ?_
   refine ret_ok hdm (.tmp rfl rfl .nil) (.cons .d .nil) ?_
   rw [knownB]
   simp_all [hasS]
  ·refine AC_skip ?_
   refine hK6 _ _ _ ?_
   refine AC_region ?_
   refine AL_ev (Ev_move) rfl ?_
   refine AL_ev (Ev_add rfl rfl _ (wrap_id (by omega) (by omega))) rfl ?_
   refine AL_ev (Ev_assign) rfl ?_
   refine AL_nil ?_
   refine closeS (j + 1) [] rfl rfl (by show op.length - (j + 1) < op.length - j; omega) ⟨hlt, ?_⟩ BxTo_nil (SlTo_cons (by exact .rd .d) (SlTo_cons (by exact .rd .d) (SlTo_cons (by exact .rd .d) SlTo_nil)))
   rw [hI]
   try rw [hdr]
   try simp_all [hasS]
 ·have hj2 : j = op.length := by
   have : ¬ j < op.length := by simpa using hc1
   omega
  subst hj2
  rw [List.drop_length] at hI
  refine AC_exit ?_
  refine hK2 _ _ _ ?_
  refine AC_seq fun K9 hK9 => ?_
  refine AC_region ?_
  refine AL_ev (Ev_load_rp rfl rfl rfl ts27 ta27 (by rfl) (by intro h; cases h)) rfl ?_
  refine AL_ev (Ev_move) rfl ?_
  refine AL_fcall0 hT rfl cl51 (c_specClausesOf ⟨cs, op⟩ p (by omega)) rfl rfl ?_
  refine AL_lim (x := (Operand.tmp 22)) rfl fun hl2 => ?_
  try simp only [injs_length, ints_length, strs_length, injCs_length, u8s_length, List.length_map] at hl2
  refine AL_ev (Ev_len_injCs te24 rfl) rfl ?_
  refine AL_ev (Ev_gtr rfl rfl) rfl ?_
  refine AL_ev (Ev_assign) rfl ?_
  refine AL_nil ?_
  refine hK9 _ _ _ ?_
  refine AC_ret ?_
  refine ret_ok hdm (.tmp rfl rfl .nil) (.cons .d .nil) ?_
  rw [hasS] at hI
  simp only [knownB, hI, Bool.false_or]
  rw [← clsOf_any]
set_option maxHeartbeats 1000000 in
set_option maxRecDepth 4000 in
theorem c_missingIn (d : Dbt) (hb : bulkD d ≤ 1048576) : NCall Tryz.prog 17 [injD d] 9 (missIn d) := by
 have hw := wC_bulk d.cs
 obtain ⟨hnc, hbc, hno, hbo⟩ := bulkD_bd (cs := d.cs) (op := d.op) hb
 have hpl := predsF_len d.cs []
 have hcu := fun u => callsOf_len d u
 simp only [List.length_nil] at hpl
 obtain ⟨ps, hps⟩ : ∃ ps, ps = predsF d.cs [] := ⟨_, rfl⟩
 have hmd : missIn d = missP d ps [] := by rw [hps]; rfl
 rw [← hps] at hpl
 refine NCall_of (n := 33) Tryz.func17 rfl rfl (Nat.le_of_ble_eq_true rfl) fun C hdm hT => ?_
 refine AC_seq fun K1 hK1 => ?_
 refine AC_region ?_
 refine AL_box (Lay.st [.one, .one]) (nf rfl) rfl (by rfl) _ rfl rfl ?_
 refine AL_ev (Ev_assign) rfl ?_
 refine AL_nil ?_
 refine hK1 _ _ _ ?_
 refine AC_seq fun K2 hK2 => ?_
 refine AC_region ?_
 refine AL_ev (Ev_assign) rfl ?_
 refine AL_nil ?_
 refine hK2 _ _ _ ?_
 refine AC_seq fun K3 hK3 => ?_
 refine AC_seq fun K4 hK4 => ?_
 refine AC_region ?_
 refine AL_ev (Ev_load_ptr rfl rfl rfl rfl rfl rfl ts27 ta27 (by rfl) (by intro h; cases h)) rfl ?_
 refine AL_fcall0 hT rfl cl16 (hps ▸ (c_predsOf d hb).pcall) rfl rfl ?_
 refine AL_lim (x := (Operand.tmp 9)) rfl fun hl1 => ?_
 try simp only [injs_length, ints_length, strs_length, injCs_length, u8s_length, List.length_map] at hl1
 refine AL_ev (Ev_len_strs te25 rfl) rfl ?_
 refine AL_ev (Ev_move) rfl ?_
 refine AL_nil ?_
 refine hK4 _ _ _ ?_
 refine AC_block ?_
 refine AC_loopS [9, 10] (Nat × List ByteArray) (fun ⟨j, out⟩ => [(11, i64 j), (3, .ref .one 0 0 (strs out).length), (1, .d (.rp (Lay.st [.one, .one]) (injD d) []))]) (fun ⟨j, out⟩ => [some ⟨9, .one, (strs out).map V.d⟩]) (fun st => ps.length - st.1) (fun ⟨j, out⟩ => j ≤ ps.length ∧ (missIn d = missP d (ps.drop j) out ∧ OkR d out)) ((0, [])) ?_ ?_ ?_
 ·refine Wk.then (Wk_nil_slot 3 9 .one rfl 1 rfl ?_)
  exact enterS [some 1] rfl rfl (BxTo_some rfl rfl rfl rfl (by exact .nil) BxTo_nil) (SlTo_cons (by exact .rd .d) (SlTo_cons (Vw_refe rfl (by rfl)) (SlTo_cons (by exact .rd (.ptr (srcFree rfl) rfl rfl rfl .d)) (SlTo_cons (by exact .rd .d) (SlTo_cons (by exact .rd .d) SlTo_nil)))))
 ·exact ⟨Nat.zero_le _, by simpa using hmd, List.nodup_nil, fun _ h => by cases h⟩
 rintro ⟨j, out⟩ ⟨hj, ⟨hI, hK⟩⟩
 show AC _ _ _ _ _ (FS [9, 10] _ [(11, i64 j), (3, .ref .one 0 0 (strs out).length), (1, .d (.rp (Lay.st [.one, .one]) (injD d) []))]) [some ⟨9, .one, (strs out).map V.d⟩]
 refine AC_seq fun K5 hK5 => ?_
 refine AC_region ?_
 refine AL_ev (Ev_lss rfl rfl) rfl ?_
 refine AL_nil ?_
 refine hK5 _ _ _ ?_
 refine AC_seq fun K6 hK6 => ?_
 refine AC_cond rfl (fun hc1 => ?_) (fun hc1 => ?_)
 ·have hlt : j < ps.length := by simpa using hc1
  obtain ⟨u, hu⟩ : ∃ x, ps[j]? = some x := ⟨_, List.getElem?_eq_getElem hlt⟩
  have hu2 := strs_get hu
  have hdr := drop_get hu
  rw [hdr, missP] at hI
  have hKl := hK.len
  have hcv := hcu u
  refine AC_skip ?_
  refine hK6 _ _ _ ?_
  refine AC_seq fun K7 hK7 => ?_
  refine AC_block ?_
  refine AC_seq fun K8 hK8 => ?_
  refine AC_region ?_
  refine AL_ev (Ev_ix_sl rfl rfl te25 ts9 (by omega) (by assumption)) rfl ?_
  refine AL_ev (Ev_load_rp rfl rfl rfl ts9 ta9 rfl (fun _ => rfl)) rfl ?_
  refine AL_ev (Ev_assign) rfl ?_
  refine AL_nil ?_
  refine hK8 _ _ _ ?_
  refine AC_seq fun K9 hK9 => ?_
  refine AC_region ?_
  refine AL_ev (Ev_load_rp rfl rfl rfl ts27 ta27 (by rfl) (by intro h; cases h)) rfl ?_
  refine AL_ev (Ev_move) rfl ?_
  refine AL_fcall0 hT rfl cl19 ((c_callsOf d u hb).pcall) rfl rfl ?_
  refine AL_lim (x := (Operand.tmp 17)) rfl fun hl2 => ?_
  try simp only [injs_length, ints_length, strs_length, injCs_length, u8s_length, List.length_map] at hl2
  refine AL_ev (Ev_len_strs te25 rfl) rfl ?_
  refine AL_ev (Ev_move) rfl ?_
  refine AL_nil ?_
  refine hK9 _ _ _ ?_
  refine AC_block ?_
  refine AC_loopS [1, 9, 10, 11, 17, 18] (Nat × List ByteArray) (fun ⟨i, ou2⟩ => [(19, i64 i), (3, .ref .one 0 0 (strs ou2).length)]) (fun ⟨i, ou2⟩ => [some ⟨9, .one, (strs ou2).map V.d⟩]) (fun st => (callsOf d u).length - st.1) (fun ⟨i, ou2⟩ => i ≤ (callsOf d u).length ∧ (addMiss d out (callsOf d u) = addMiss d ou2 ((callsOf d u).drop i) ∧ OkR d ou2)) ((0, out)) ?_ ?_ ?_
  ·exact enterS [some 0] rfl rfl (BxTo_some rfl rfl rfl rfl (by exact VwL_dd (by rfl)) BxTo_nil) (SlTo_cons (by exact .rd .d) (SlTo_cons (Vw_refe rfl (by rfl)) (SlTo_cons (by exact .rd .d) (SlTo_cons (by exact .rd .d) (SlTo_cons (by exact .rd .d) (SlTo_cons (by exact .rd .d) (SlTo_cons (by exact .rd .d) (SlTo_cons (by exact .rd .d) SlTo_nil))))))))
  ·exact ⟨Nat.zero_le _, by simp, hK⟩
  rintro ⟨i, ou2⟩ ⟨hj, ⟨hI2, hK2⟩⟩
  show AC _ _ _ _ _ (FS [1, 9, 10, 11, 17, 18] _ [(19, i64 i), (3, .ref .one 0 0 (strs ou2).length)]) [some ⟨9, .one, (strs ou2).map V.d⟩]
  refine AC_seq fun K10 hK10 => ?_
  refine AC_region ?_
  refine AL_ev (Ev_lss rfl rfl) rfl ?_
  refine AL_nil ?_
  refine hK10 _ _ _ ?_
  refine AC_seq fun K11 hK11 => ?_
  refine AC_cond rfl (fun hc2 => ?_) (fun hc2 => ?_)
  ·have hlt : i < (callsOf d u).length := by simpa using hc2
   obtain ⟨v, hu⟩ : ∃ x, (callsOf d u)[i]? = some x := ⟨_, List.getElem?_eq_getElem hlt⟩
   have hu2 := strs_get hu
   have hdr := drop_get hu
   rw [hdr] at hI2
   rw [addMiss] at hI2
   have hKl2 := hK2.len
   refine AC_skip ?_
   refine hK11 _ _ _ ?_
   refine AC_seq fun K12 hK12 => ?_
   refine AC_block ?_
   refine AC_seq fun K13 hK13 => ?_
   refine AC_region ?_
   refine AL_ev (Ev_ix_sl rfl rfl te25 ts9 (by omega) (by assumption)) rfl ?_
   refine AL_ev (Ev_load_rp rfl rfl rfl ts9 ta9 rfl (fun _ => rfl)) rfl ?_
   refine AL_ev (Ev_assign) rfl ?_
   refine AL_nil ?_
   refine hK13 _ _ _ ?_
   refine AC_seq fun K14 hK14 => ?_
   refine AC_region ?_
   refine AL_ev (Ev_load_rp rfl rfl rfl ts27 ta27 (by rfl) (by intro h; cases h)) rfl ?_
   refine AL_ev (Ev_move) rfl ?_
   refine AL_fcall0 hT rfl cl53 (c_known d v hb) rfl rfl ?_
   refine AL_ev (Ev_not rfl) rfl ?_
   refine AL_nil ?_
   refine hK14 _ _ _ ?_
   refine AC_cond rfl (fun hc3 => ?_) (fun hc3 => ?_)
   ·refine AC_region ?_
    refine AL_ev (Ev_move) rfl ?_
    refine AL_ev (Ev_move) rfl ?_
    refine AL_bcall hT _ _ [] rfl cl52 rfl rfl rfl rfl (c_once ou2 v (by omega)) rfl rfl (by rfl) _ rfl rfl ?_
    refine AL_ev (Ev_assign) rfl ?_
    refine AL_nil ?_
    refine hK12 _ _ _ ?_
    refine AC_region ?_
    refine AL_ev (Ev_add rfl rfl _ (wrap_id (by omega) (by omega))) rfl ?_
    refine AL_ev (Ev_move) rfl ?_
    refine AL_nil ?_
    refine closeS (i + 1, onceL ou2 v) [some 1] rfl rfl (by show (callsOf d u).length - (i + 1) < (callsOf d u).length - i; omega) ⟨hlt, ?_⟩ (BxTo_some rfl rfl rfl rfl (by exact VwL_dd (by rfl)) BxTo_nil) (SlTo_cons (by exact .rd .d) (SlTo_cons (Vw_refe rfl (by rfl)) (SlTo_cons (by exact .rd .d) (SlTo_cons (by exact .rd .d) (SlTo_cons (by exact .rd .d) (SlTo_cons (by exact .rd .d) (SlTo_cons (by exact .rd .d) (SlTo_cons (by exact .rd .d) SlTo_nil))))))))
    exact ⟨by rw [hI2, if_neg (by simp_all)], hK2.once (callsOf_sub (List.mem_of_getElem? hu))⟩
   ·refine AC_skip ?_
    refine hK12 _ _ _ ?_
    refine AC_region ?_
    refine AL_ev (Ev_add rfl rfl _ (wrap_id (by omega) (by omega))) rfl ?_
    refine AL_ev (Ev_move) rfl ?_
    refine AL_nil ?_
    refine closeS (i + 1, ou2) [some 0] rfl rfl (by show (callsOf d u).length - (i + 1) < (callsOf d u).length - i; omega) ⟨hlt, ?_⟩ (BxTo_some rfl rfl rfl rfl (by exact VwL_dd (by rfl)) BxTo_nil) (SlTo_cons (by exact .rd .d) (SlTo_cons (Vw_refe rfl (by rfl)) (SlTo_cons (by exact .rd .d) (SlTo_cons (by exact .rd .d) (SlTo_cons (by exact .rd .d) (SlTo_cons (by exact .rd .d) (SlTo_cons (by exact .rd .d) (SlTo_cons (by exact .rd .d) SlTo_nil))))))))
    exact ⟨by rw [hI2, if_pos (by simp_all)], hK2⟩
  ·have hj2 : i = (callsOf d u).length := by
    have : ¬ i < (callsOf d u).length := by simpa using hc2
    omega
   subst hj2
   refine AC_exit ?_
   refine hK7 _ _ _ ?_
   refine AC_region ?_
   refine AL_ev (Ev_add rfl rfl _ (wrap_id (by omega) (by omega))) rfl ?_
   refine AL_ev (Ev_move) rfl ?_
   refine AL_nil ?_
   refine closeS (j + 1, ou2) [some 0] rfl rfl (by show ps.length - (j + 1) < ps.length - j; omega) ⟨hlt, ?_⟩ (BxTo_some rfl rfl rfl rfl (by exact VwL_dd (by rfl)) BxTo_nil) (SlTo_cons (by exact .rd .d) (SlTo_cons (Vw_refe rfl (by rfl)) (SlTo_cons (by exact .rd .d) (SlTo_cons (by exact .rd .d) (SlTo_cons (by exact .rd .d) SlTo_nil)))))
   rw [List.drop_length, addMiss] at hI2
   exact ⟨by rw [hI, hI2], hK2⟩
 ·have hj2 : j = ps.length := by
   have : ¬ j < ps.length := by simpa using hc1
   omega
  subst hj2
  rw [List.drop_length] at hI
  refine AC_exit ?_
  refine hK3 _ _ _ ?_
  refine AC_seq fun K15 hK15 => ?_
  refine AC_region ?_
  refine AL_ev (Ev_move) rfl ?_
  refine AL_ev (Ev_assign) rfl ?_
  refine AL_nil ?_
  refine hK15 _ _ _ ?_
  refine AC_ret ?_
  rw [missP] at hI
  rw [hI]
  exact retn_ok hdm (.tmp rfl rfl .nil) rfl (by rfl) (by simp)
end Go.Proofs.YtjgliechbnommaaGreatDoor
set_option linter.unusedVariables false
set_option linter.unusedSimpArgs false
namespace Go.Proofs.YtjgliechbnommaaGreatDoor
open Go.Eng
set_option maxHeartbeats 1000000 in
set_option maxRecDepth 4000 in
theorem c_unreached (d : Dbt) (es : List ByteArray) (hb : bulkD d + (es.length + bulkSs es) ≤ 1048576) : NCall Tryz.prog 23 [injD d, .sl .one (strs es)] 9 (unreached d es) := by
 have hsn := bulkSs_nn es
 obtain ⟨hnc, hbc, hno, hbo⟩ := bulkD_bd (cs := d.cs) (op := d.op) (B := 1048576) (by show bulkD d ≤ _; omega)
 have hwr := wR_bd hb
 have hpl := predsF_len d.cs []
 simp only [List.length_nil] at hpl
 have hcu := fun u => reachedFrom_len d u
 obtain ⟨ps, hps⟩ : ∃ ps, ps = predsF d.cs [] := ⟨_, rfl⟩
 have hmd : unreached d es = ps.filter fun x => !hasS (appR d es es) x := by rw [hps]; exact unreached_app d es
 rw [← hps] at hpl
 refine NCall_of (n := 42) Tryz.func23 rfl rfl (Nat.le_of_ble_eq_true rfl) fun C hdm hT => ?_
 refine AC_seq fun K1 hK1 => ?_
 refine AC_region ?_
 refine AL_box (Lay.st [.one, .one]) (nf rfl) rfl (by rfl) _ rfl rfl ?_
 refine AL_ev (Ev_assign) rfl ?_
 refine AL_nil ?_
 refine hK1 _ _ _ ?_
 refine AC_seq fun K2 hK2 => ?_
 refine AC_region ?_
 refine AL_ev (Ev_move) rfl ?_
 refine AL_appendn (l := .one) rfl te25 ts9 tz9 rfl tb9 (by decide) (by decide) rfl (by simp only [lim]; simp; omega) _ rfl rfl ?_
 refine AL_ev (Ev_assign) rfl ?_
 refine AL_nil ?_
 refine hK2 _ _ _ ?_
 refine AC_seq fun K3 hK3 => ?_
 refine AC_seq fun K4 hK4 => ?_
 refine AC_region ?_
 refine AL_ev (Ev_move) rfl ?_
 refine AL_lim (x := (Operand.tmp 13)) rfl fun hl1 => ?_
 try simp only [injs_length, ints_length, strs_length, injCs_length, u8s_length, List.length_map] at hl1
 refine AL_ev (Ev_len_strs te25 rfl) rfl ?_
 refine AL_ev (Ev_move) rfl ?_
 refine AL_nil ?_
 refine hK4 _ _ _ ?_
 refine AC_block ?_
 refine AC_loopS [13, 14] (Nat × List ByteArray) (fun ⟨j, out⟩ => [(15, i64 j), (5, .ref .one 0 0 (strs out).length), (2, .d (.rp (Lay.st [.one, .one]) (injD d) []))]) (fun ⟨j, out⟩ => [some ⟨9, .one, (strs out).map V.d⟩]) (fun st => es.length - st.1) (fun ⟨j, out⟩ => j ≤ es.length ∧ (appR d es es = appR d (es.drop j) out ∧ out.length + wR d (es.drop j) ≤ 1099511627776)) ((0, es)) ?_ ?_ ?_
 ·exact enterS [some 2] rfl rfl (BxTo_some rfl rfl rfl rfl (by exact VwL_dd (by rfl)) BxTo_nil) (SlTo_cons (by exact .rd .d) (SlTo_cons (Vw_refe rfl (by rfl)) (SlTo_cons (by exact .rd (.ptr (srcFree rfl) rfl rfl rfl .d)) (SlTo_cons (by exact .rd .d) (SlTo_cons (by exact .rd .d) SlTo_nil)))))
 ·exact ⟨Nat.zero_le _, by simp, by simpa using hwr⟩
 rintro ⟨j, out⟩ ⟨hj, ⟨hI, ho⟩⟩
 show AC _ _ _ _ _ (FS [13, 14] _ [(15, i64 j), (5, .ref .one 0 0 (strs out).length), (2, .d (.rp (Lay.st [.one, .one]) (injD d) []))]) [some ⟨9, .one, (strs out).map V.d⟩]
 refine AC_seq fun K5 hK5 => ?_
 refine AC_region ?_
 refine AL_ev (Ev_lss rfl rfl) rfl ?_
 refine AL_nil ?_
 refine hK5 _ _ _ ?_
 refine AC_seq fun K6 hK6 => ?_
 refine AC_cond rfl (fun hc1 => ?_) (fun hc1 => ?_)
 ·have hlt : j < es.length := by simpa using hc1
  obtain ⟨u, hu⟩ : ∃ x, es[j]? = some x := ⟨_, List.getElem?_eq_getElem hlt⟩
  have hu2 := strs_get hu
  have hdr := drop_get hu
  rw [hdr, appR] at hI
  rw [hdr, wR] at ho
  refine AC_skip ?_
  refine hK6 _ _ _ ?_
  refine AC_seq fun K7 hK7 => ?_
  refine AC_block ?_
  refine AC_seq fun K8 hK8 => ?_
  refine AC_region ?_
  refine AL_ev (Ev_ix_sl rfl rfl te25 ts9 (by omega) (by assumption)) rfl ?_
  refine AL_ev (Ev_load_rp rfl rfl rfl ts9 ta9 rfl (fun _ => rfl)) rfl ?_
  refine AL_ev (Ev_assign) rfl ?_
  refine AL_nil ?_
  refine hK8 _ _ _ ?_
  refine AC_region ?_
  refine AL_ev (Ev_move) rfl ?_
  refine AL_ev (Ev_load_rp rfl rfl rfl ts27 ta27 (by rfl) (by intro h; cases h)) rfl ?_
  refine AL_ev (Ev_move) rfl ?_
  refine AL_fcall0 hT rfl cl18 ((c_reachedFromN d u (by omega)).ocall.pcall) rfl rfl ?_
  refine AL_append rfl rfl rfl te25 ts9 tz9 rfl tb9 (by decide) (by decide) rfl (by (simp; done)) (Src_sl rfl) (by simp only [lim]; (simp; omega)) _ rfl rfl ?_
  refine AL_ev (Ev_assign) rfl ?_
  refine AL_nil ?_
  refine hK7 _ _ _ ?_
  refine AC_region ?_
  refine AL_ev (Ev_add rfl rfl _ (wrap_id (by omega) (by omega))) rfl ?_
  refine AL_ev (Ev_move) rfl ?_
  refine AL_nil ?_
  refine closeS (j + 1, out ++ reachedFrom d u) [some 1] rfl rfl (by show es.length - (j + 1) < es.length - j; omega) ⟨hlt, ?_⟩ (BxTo_some rfl rfl rfl rfl (by exact VwL_app (by simp [strs])) BxTo_nil) (SlTo_cons (by exact .rd .d) (SlTo_cons (Vw_refe rfl (by simp)) (SlTo_cons (by exact .rd .d) (SlTo_cons (by exact .rd .d) (SlTo_cons (by exact .rd .d) SlTo_nil)))))
  exact ⟨hI, by simp only [List.length_append]; omega⟩
 ·have hj2 : j = es.length := by
   have : ¬ j < es.length := by simpa using hc1
   omega
  subst hj2
  rw [List.drop_length] at hI
  refine AC_exit ?_
  refine hK3 _ _ _ ?_
  refine AC_seq fun K9 hK9 => ?_
  refine AC_region ?_
  refine AL_ev (Ev_assign) rfl ?_
  refine AL_nil ?_
  refine hK9 _ _ _ ?_
  refine AC_seq fun K10 hK10 => ?_
  refine AC_seq fun K11 hK11 => ?_
  refine AC_region ?_
  refine AL_ev (Ev_load_rp rfl rfl rfl ts27 ta27 (by rfl) (by intro h; cases h)) rfl ?_
  refine AL_fcall0 hT rfl cl16 (hps ▸ (c_predsOf d (by omega)).pcall) rfl rfl ?_
  refine AL_lim (x := (Operand.tmp 26)) rfl fun hl2 => ?_
  try simp only [injs_length, ints_length, strs_length, injCs_length, u8s_length, List.length_map] at hl2
  refine AL_ev (Ev_len_strs te25 rfl) rfl ?_
  refine AL_ev (Ev_move) rfl ?_
  refine AL_nil ?_
  refine hK11 _ _ _ ?_
  refine AC_block ?_
  refine AC_loopS [26, 27] (Nat × List ByteArray) (fun ⟨j2, fo⟩ => [(28, i64 j2), (8, .ref .one 0 0 (strs fo).length), (5, .d (.sl .one (strs out)))]) (fun ⟨j2, fo⟩ => [some ⟨9, .one, (strs fo).map V.d⟩]) (fun st => ps.length - st.1) (fun ⟨j2, fo⟩ => j2 ≤ ps.length ∧ (ps.filter (fun x => !hasS out x) = fo ++ (ps.drop j2).filter (fun x => !hasS out x) ∧ fo.length ≤ j2)) ((0, [])) ?_ ?_ ?_
  ·refine Wk.then (Wk_nil_slot 8 9 .one rfl 1 rfl ?_)
   exact enterS [some 1] rfl rfl (BxTo_some rfl rfl rfl rfl (by exact .nil) BxTo_nil) (SlTo_cons (by exact .rd .d) (SlTo_cons (Vw_refe rfl (by rfl)) (SlTo_cons (by exact .rd (.ref (srcFree rfl) rfl rfl (by simp) (ReadsL_d _))) (SlTo_cons (by exact .rd .d) (SlTo_cons (by exact .rd .d) SlTo_nil)))))
  ·exact ⟨Nat.zero_le _, by simp, by simp⟩
  rintro ⟨j2, fo⟩ ⟨hj, ⟨hI3, ho3⟩⟩
  show AC _ _ _ _ _ (FS [26, 27] _ [(28, i64 j2), (8, .ref .one 0 0 (strs fo).length), (5, .d (.sl .one (strs out)))]) [some ⟨9, .one, (strs fo).map V.d⟩]
  refine AC_seq fun K12 hK12 => ?_
  refine AC_region ?_
  refine AL_ev (Ev_lss rfl rfl) rfl ?_
  refine AL_nil ?_
  refine hK12 _ _ _ ?_
  refine AC_seq fun K13 hK13 => ?_
  refine AC_cond rfl (fun hc2 => ?_) (fun hc2 => ?_)
  ·have hlt : j2 < ps.length := by simpa using hc2
   obtain ⟨v, hu⟩ : ∃ x, ps[j2]? = some x := ⟨_, List.getElem?_eq_getElem hlt⟩
   have hu2 := strs_get hu
   have hdr := drop_get hu
   rw [hdr, List.filter_cons] at hI3
   refine AC_skip ?_
   refine hK13 _ _ _ ?_
   refine AC_seq fun K14 hK14 => ?_
   refine AC_block ?_
   refine AC_seq fun K15 hK15 => ?_
   refine AC_region ?_
   refine AL_ev (Ev_ix_sl rfl rfl te25 ts9 (by omega) (by assumption)) rfl ?_
   refine AL_ev (Ev_load_rp rfl rfl rfl ts9 ta9 rfl (fun _ => rfl)) rfl ?_
   refine AL_ev (Ev_assign) rfl ?_
   refine AL_nil ?_
   refine hK15 _ _ _ ?_
   refine AC_seq fun K16 hK16 => ?_
   refine AC_region ?_
   refine AL_ev (Ev_move) rfl ?_
   refine AL_ev (Ev_move) rfl ?_
   refine AL_fcall0 hT rfl cl55 (c_containsS out v) rfl rfl ?_
   refine AL_ev (Ev_not rfl) rfl ?_
   refine AL_nil ?_
   refine hK16 _ _ _ ?_
   refine AC_cond rfl (fun hc3 => ?_) (fun hc3 => ?_)
   ·refine AC_region ?_
    refine AL_ev (Ev_move) rfl ?_
    refine AL_ev (Ev_move) rfl ?_
    refine AL_bD .one rfl te25 ts9 tz9 rfl rfl (by decide) (by decide) (by rfl) rfl ?_
    refine AL_append rfl rfl rfl te25 ts9 tz9 rfl tb9 (by decide) (by decide) rfl (by (simp; done)) (Src_sl rfl) (by simp only [lim]; (simp; omega)) _ rfl rfl ?_
    refine AL_ev (Ev_assign) rfl ?_
    refine AL_nil ?_
    refine hK14 _ _ _ ?_
    refine AC_region ?_
    refine AL_ev (Ev_add rfl rfl _ (wrap_id (by omega) (by omega))) rfl ?_
    refine AL_ev (Ev_move) rfl ?_
    refine AL_nil ?_
    refine closeS (j2 + 1, fo ++ [v]) [some 1] rfl rfl (by show ps.length - (j2 + 1) < ps.length - j2; omega) ⟨hlt, ?_⟩ (BxTo_some rfl rfl rfl rfl (by exact VwL_app (by simp [ints, strs])) BxTo_nil) (SlTo_cons (by exact .rd .d) (SlTo_cons (Vw_refe rfl (by simp)) (SlTo_cons (by exact .rd .d) (SlTo_cons (by exact .rd .d) (SlTo_cons (by exact .rd .d) SlTo_nil)))))
    exact ⟨by rw [hI3, if_pos (by simp_all)]; simp, by simp; omega⟩
   ·refine AC_skip ?_
    refine hK14 _ _ _ ?_
    refine AC_region ?_
    refine AL_ev (Ev_add rfl rfl _ (wrap_id (by omega) (by omega))) rfl ?_
    refine AL_ev (Ev_move) rfl ?_
    refine AL_nil ?_
    refine closeS (j2 + 1, fo) [some 0] rfl rfl (by show ps.length - (j2 + 1) < ps.length - j2; omega) ⟨hlt, ?_⟩ (BxTo_some rfl rfl rfl rfl (by exact VwL_dd (by rfl)) BxTo_nil) (SlTo_cons (by exact .rd .d) (SlTo_cons (Vw_refe rfl (by rfl)) (SlTo_cons (by exact .rd .d) (SlTo_cons (by exact .rd .d) (SlTo_cons (by exact .rd .d) SlTo_nil)))))
    exact ⟨by rw [hI3, if_neg (by simp_all)], by omega⟩
  ·have hj2 : j2 = ps.length := by
    have : ¬ j2 < ps.length := by simpa using hc2
    omega
   subst hj2
   refine AC_exit ?_
   refine hK10 _ _ _ ?_
   refine AC_seq fun K17 hK17 => ?_
   refine AC_region ?_
   refine AL_ev (Ev_move) rfl ?_
   refine AL_ev (Ev_assign) rfl ?_
   refine AL_nil ?_
   refine hK17 _ _ _ ?_
   refine AC_ret ?_
   rw [appR] at hI
   rw [List.drop_length] at hI3
   simp only [List.filter_nil, List.append_nil] at hI3
   rw [show unreached d es = fo from by rw [hmd, hI, hI3]]
   exact retn_ok hdm (.tmp rfl rfl .nil) rfl (by rfl) (by simp)
end Go.Proofs.YtjgliechbnommaaGreatDoor
set_option linter.unusedVariables false
set_option linter.unusedSimpArgs false
namespace Go.Proofs.YtjgliechbnommaaGreatDoor
open Go.Eng
theorem cl142 : Callable Tryz.prog 142 := Callable_of Tryz.func142 (by kernel_rfl) (by kernel_rfl)
theorem cl164 : Callable Tryz.prog 164 := Callable_of Tryz.func164 (by kernel_rfl) (by kernel_rfl)
theorem cl64 : Callable Tryz.prog 64 := Callable_of Tryz.func64 (by kernel_rfl) (by kernel_rfl)
theorem cl98 : Callable Tryz.prog 98 := Callable_of Tryz.func98 (by kernel_rfl) (by kernel_rfl)
set_option maxHeartbeats 1000000 in
set_option maxRecDepth 4000 in
theorem c_l08Head (t : T) (hb : bulk t ≤ 1099511627776) : PCall Tryz.prog 142 [inj t] (· = [.c (.bool (headB t))]) := by
 refine PCall_of (n := 13) Tryz.func142 rfl rfl (Nat.le_of_ble_eq_true rfl) fun C hdm hT0 => ?_
 have hT := hT0
 refine AC_seq fun K1 hK1 => ?_
 refine AC_region ?_
 refine AL_box (Lay.st [.one, .one, .one, .one]) (nf rfl) rfl (by simp [Lay.len, Lay.lens]) _ rfl rfl ?_
 refine AL_ev (Ev_assign) rfl ?_
 refine AL_nil ?_
 refine hK1 _ _ _ ?_
 refine AC_seq fun K2 hK2 => ?_
 refine AC_region ?_
 refine AL_ev (Ev_load_ptr rfl rfl rfl rfl rfl rfl ts41 ta41 (by simp) (by intro h; cases h)) rfl ?_
 refine AL_fcall0 hT rfl cl34 (c_specPredOf t hb) rfl rfl ?_
 refine AL_ev (Ev_assign) rfl ?_
 refine AL_nil ?_
 refine hK2 _ _ _ ?_
 refine AC_seq fun K3 hK3 => ?_
 refine AC_region ?_
 refine AL_ev (Ev_move) rfl ?_
 refine AL_ev (Ev_sneq rfl rfl) rfl ?_
 refine AL_ev (Ev_move) rfl ?_
 refine AL_bool 8 rfl (fun hg1 => ?_) (fun hg1 => ?_)
 ·refine AL_guard_t rfl rfl rfl ?_
  refine AL_ev (Ev_move) rfl ?_
  refine AL_guard_t rfl rfl rfl ?_
  refine AL_fcall0 hT rfl cl98 (c_specControl (predS t)) rfl rfl ?_
  refine AL_guard_t rfl rfl rfl ?_
  refine AL_ev (Ev_not rfl) rfl ?_
  refine AL_ev (Ev_pick rfl) rfl ?_
  refine AL_ev (Ev_assign) rfl ?_
  refine AL_nil ?_
  refine hK3 _ _ _ ?_
  refine AC_ret ?_
  refine ret_ok hdm (.tmp rfl rfl .nil) (.cons .d .nil) ?_
  simp_all [headB]
 ·refine AL_guard_f rfl rfl rfl rfl ?_
  refine AL_guard_f rfl rfl rfl rfl ?_
  refine AL_guard_f rfl rfl rfl rfl ?_
  refine AL_ev (Ev_pick rfl) rfl ?_
  refine AL_ev (Ev_assign) rfl ?_
  refine AL_nil ?_
  refine hK3 _ _ _ ?_
  refine AC_ret ?_
  refine ret_ok hdm (.tmp rfl rfl .nil) (.cons .d .nil) ?_
  simp_all [headB]
set_option maxHeartbeats 1000000 in
set_option maxRecDepth 4000 in
theorem c_l08Clause (c : Cl) (h1 : bulk c.h ≤ 1099511627776) (h2 : bulk c.b ≤ 1099511627776) : PCall Tryz.prog 164 [injC c] (· = [.c (.bool (clB c))]) := by
 obtain ⟨h, b, f⟩ := c
 refine PCall_of (n := 16) Tryz.func164 rfl rfl (Nat.le_of_ble_eq_true rfl) fun C hdm hT0 => ?_
 have hT := hT0
 refine AC_seq fun K1 hK1 => ?_
 refine AC_region ?_
 refine AL_box (Lay.st [(Lay.st [.one, .one, .one, .one]), (Lay.st [.one, .one, .one, .one]), .one]) (nf rfl) rfl (by rfl) _ rfl rfl ?_
 refine AL_ev (Ev_assign) rfl ?_
 refine AL_nil ?_
 refine hK1 _ _ _ ?_
 refine AC_seq fun K2 hK2 => ?_
 refine AC_region ?_
 refine AL_ev (Ev_fa_ptr rfl fa54_0 rfl rfl) rfl ?_
 refine AL_ev (Ev_load_ptr rfl rfl rfl rfl rfl rfl ts41 ta41 (by simp) (by intro h; cases h)) rfl ?_
 refine AL_fcall0 hT rfl cl64 (c_specTermOk h h1) rfl rfl ?_
 refine AL_ev (Ev_move) rfl ?_
 refine AL_bool 6 rfl (fun hg1 => ?_) (fun hg1 => ?_)
 ·refine AL_guard_t rfl rfl rfl ?_
  refine AL_ev (Ev_fa_ptr rfl fa54_1 rfl rfl) rfl ?_
  refine AL_guard_t rfl rfl rfl ?_
  refine AL_ev (Ev_load_ptr rfl rfl rfl rfl rfl rfl ts41 ta41 (by simp) (by intro h; cases h)) rfl ?_
  refine AL_guard_t rfl rfl rfl ?_
  refine AL_fcall0 hT rfl cl64 (c_specTermOk b h2) rfl rfl ?_
  refine AL_ev (Ev_pick rfl) rfl ?_
  refine AL_ev (Ev_move) rfl ?_
  refine AL_bool 11 rfl (fun hg2 => ?_) (fun hg2 => ?_)
  ·refine AL_guard_t rfl rfl rfl ?_
   refine AL_ev (Ev_fa_ptr rfl fa54_0 rfl rfl) rfl ?_
   refine AL_guard_t rfl rfl rfl ?_
   refine AL_ev (Ev_load_ptr rfl rfl rfl rfl rfl rfl ts41 ta41 (by simp) (by intro h; cases h)) rfl ?_
   refine AL_guard_t rfl rfl rfl ?_
   refine AL_fcall0 hT rfl cl142 (c_l08Head h h1) rfl rfl ?_
   refine AL_ev (Ev_pick rfl) rfl ?_
   refine AL_ev (Ev_assign) rfl ?_
   refine AL_nil ?_
   refine hK2 _ _ _ ?_
   refine AC_ret ?_
   refine ret_ok hdm (.tmp rfl rfl .nil) (.cons .d .nil) ?_
   simp_all [clB]
  ·refine AL_guard_f rfl rfl rfl rfl ?_
   refine AL_guard_f rfl rfl rfl rfl ?_
   refine AL_guard_f rfl rfl rfl rfl ?_
   refine AL_ev (Ev_pick rfl) rfl ?_
   refine AL_ev (Ev_assign) rfl ?_
   refine AL_nil ?_
   refine hK2 _ _ _ ?_
   refine AC_ret ?_
   refine ret_ok hdm (.tmp rfl rfl .nil) (.cons .d .nil) ?_
   simp_all [clB]
 ·refine AL_guard_f rfl rfl rfl rfl ?_
  refine AL_guard_f rfl rfl rfl rfl ?_
  refine AL_guard_f rfl rfl rfl rfl ?_
  refine AL_ev (Ev_pick rfl) rfl ?_
  refine AL_ev (Ev_move) rfl ?_
  refine AL_guard_f rfl rfl rfl rfl ?_
  refine AL_guard_f rfl rfl rfl rfl ?_
  refine AL_guard_f rfl rfl rfl rfl ?_
  refine AL_ev (Ev_pick rfl) rfl ?_
  refine AL_ev (Ev_assign) rfl ?_
  refine AL_nil ?_
  refine hK2 _ _ _ ?_
  refine AC_ret ?_
  refine ret_ok hdm (.tmp rfl rfl .nil) (.cons .d .nil) ?_
  simp_all [clB]
set_option maxHeartbeats 1000000 in
set_option maxRecDepth 4000 in
theorem c_specDbOk (d : Dbt) (hb : bulkD d ≤ 1099511627775) : PCall Tryz.prog 144 [injD d] (· = [.c (.bool (dbB d))]) := by
 obtain ⟨cs, op⟩ := d
 obtain ⟨hnc, hbc, hno, hbo⟩ := bulkD_bd hb
 refine PCall_of (n := 28) Tryz.func144 rfl rfl (Nat.le_of_ble_eq_true rfl) fun C hdm hT0 => ?_
 have hT := hT0
 refine AC_seq fun K1 hK1 => ?_
 refine AC_region ?_
 refine AL_box (Lay.st [.one, .one]) (nf rfl) rfl (by rfl) _ rfl rfl ?_
 refine AL_ev (Ev_assign) rfl ?_
 refine AL_nil ?_
 refine hK1 _ _ _ ?_
 refine AC_seq fun K2 hK2 => ?_
 refine AC_seq fun K3 hK3 => ?_
 refine AC_region ?_
 refine AL_ev (Ev_assign) rfl ?_
 refine AL_nil ?_
 refine hK3 _ _ _ ?_
 refine AC_block ?_
 refine AC_loopS [] (Nat) (fun j => [(3, i64 j), (1, .d (.rp (Lay.st [.one, .one]) (injD ⟨cs, op⟩) []))]) (fun j => []) (fun st => cs.length - st) (fun j => j ≤ cs.length ∧ cs.all clB = (cs.drop j).all clB) (0) ?_ ?_ ?_
 ·exact enterS [] rfl rfl BxTo_nil (SlTo_cons (by exact .rd .d) (SlTo_cons (by exact .rd (.ptr (srcFree rfl) rfl rfl rfl .d)) SlTo_nil))
 ·exact ⟨Nat.zero_le _, by simp⟩
 rintro j ⟨hj, hI⟩
 show AC _ _ _ _ _ (FS [] _ [(3, i64 j), (1, .d (.rp (Lay.st [.one, .one]) (injD ⟨cs, op⟩) []))]) []
 refine AC_seq fun K4 hK4 => ?_
 refine AC_seq fun K5 hK5 => ?_
 refine AC_region ?_
 refine AL_ev (Ev_move) rfl ?_
 refine AL_ev (Ev_fa_rp rfl fa27_0 rfl rfl) rfl ?_
 refine AL_ev (Ev_load_rp rfl rfl rfl ts24 ta24 rfl (fun _ => rfl)) rfl ?_
 refine AL_lim (x := (Operand.tmp 6)) rfl fun hl1 => ?_
 try simp only [injs_length, ints_length, strs_length, injCs_length, u8s_length, List.length_map] at hl1
 refine AL_ev (Ev_len_injCs te24 rfl) rfl ?_
 refine AL_ev (Ev_lss rfl rfl) rfl ?_
 refine AL_nil ?_
 refine hK5 _ _ _ ?_
 refine AC_cond rfl (fun hc1 => ?_) (fun hc1 => ?_)
 ·have hlt : j < cs.length := by simpa using hc1
  obtain ⟨u, hu⟩ : ∃ x, cs[j]? = some x := ⟨_, List.getElem?_eq_getElem hlt⟩
  have hu2 := injCs_get hu
  have hdr := drop_get hu
  obtain ⟨hbu, hbv, _⟩ := bulkCs_bd (List.mem_of_getElem? hu) hbc
  refine AC_skip ?_
  refine hK4 _ _ _ ?_
  refine AC_seq fun K6 hK6 => ?_
  refine AC_block ?_
  refine AC_seq fun K7 hK7 => ?_
  refine AC_region ?_
  refine AL_ev (Ev_fa_rp rfl fa27_0 rfl rfl) rfl ?_
  refine AL_ev (Ev_load_rp rfl rfl rfl ts24 ta24 rfl (fun _ => rfl)) rfl ?_
  refine AL_ev (Ev_move) rfl ?_
  refine AL_ev (Ev_ix_sl rfl rfl te24 ts54 (by omega) (by assumption)) rfl ?_
  refine AL_ev (Ev_load_rp rfl rfl rfl ts54 ta54 (by rfl) (by intro h; cases h)) rfl ?_
  refine AL_fcall0 hT rfl cl164 (c_l08Clause u (by omega) (by omega)) rfl rfl ?_
  refine AL_ev (Ev_not rfl) rfl ?_
  refine AL_nil ?_
  refine hK7 _ _ _ ?_
  refine AC_cond rfl (fun hc2 => ?_) (fun hc2 => ?_)
  ·refine AC_seq fun K8 hK8 => ?_
   refine AC_region ?_
   refine AL_ev (Ev_assign) rfl ?_
   refine AL_nil ?_
   refine hK8 _ _ _ ?_
   refine AC_ret ?_
   refine ret_ok hdm (.tmp rfl rfl .nil) (.cons .d .nil) ?_
   rw [dbB]
   try rw [hI]
   try rw [hdr]
   simp_all
  ·refine AC_skip ?_
   refine hK6 _ _ _ ?_
   refine AC_region ?_
   refine AL_ev (Ev_move) rfl ?_
   refine AL_ev (Ev_add rfl rfl _ (wrap_id (by omega) (by omega))) rfl ?_
   refine AL_ev (Ev_assign) rfl ?_
   refine AL_nil ?_
   refine closeS (j + 1) [] rfl rfl (by show cs.length - (j + 1) < cs.length - j; omega) ⟨hlt, ?_⟩ BxTo_nil (SlTo_cons (by exact .rd .d) (SlTo_cons (by exact .rd .d) SlTo_nil))
   rw [hI, hdr, List.all_cons]
   simp_all
 ·have hj2 : j = cs.length := by
   have : ¬ j < cs.length := by simpa using hc1
   omega
  subst hj2
  rw [List.drop_length] at hI
  refine AC_exit ?_
  refine hK2 _ _ _ ?_
  refine AC_seq fun K9 hK9 => ?_
  refine AC_region ?_
  refine AL_ev (Ev_fa_rp rfl fa27_0 rfl rfl) rfl ?_
  refine AL_ev (Ev_load_rp rfl rfl rfl ts24 ta24 rfl (fun _ => rfl)) rfl ?_
  refine AL_lim (x := (Operand.tmp 19)) rfl fun hl2 => ?_
  try simp only [injs_length, ints_length, strs_length, injCs_length, u8s_length, List.length_map] at hl2
  refine AL_ev (Ev_len_injCs te24 rfl) rfl ?_
  refine AL_ev (Ev_leq rfl rfl) rfl ?_
  refine AL_ev (Ev_move) rfl ?_
  refine AL_bool 22 rfl (fun hg3 => ?_) (fun hg3 => ?_)
  ·refine AL_guard_t rfl rfl rfl ?_
   refine AL_ev (Ev_fa_rp rfl fa27_1 rfl rfl) rfl ?_
   refine AL_guard_t rfl rfl rfl ?_
   refine AL_ev (Ev_load_rp rfl rfl rfl ts25 ta25 rfl (fun _ => rfl)) rfl ?_
   refine AL_guard_t rfl rfl rfl ?_
   refine AL_lim (x := (Operand.tmp 24)) rfl fun hl3 => ?_
   try simp only [injs_length, ints_length, strs_length, injCs_length, u8s_length, List.length_map] at hl3
   refine AL_ev (Ev_len_strs te25 rfl) rfl ?_
   refine AL_guard_t rfl rfl rfl ?_
   refine AL_ev (Ev_leq rfl rfl) rfl ?_
   refine AL_ev (Ev_pick rfl) rfl ?_
   refine AL_ev (Ev_assign) rfl ?_
   refine AL_nil ?_
   refine hK9 _ _ _ ?_
   refine AC_ret ?_
   refine ret_ok hdm (.tmp rfl rfl .nil) (.cons .d .nil) ?_
   rw [dbB]
   try rw [hI]
   simp_all
  ·refine AL_guard_f rfl rfl rfl rfl ?_
   refine AL_guard_f rfl rfl rfl rfl ?_
   refine AL_guard_f rfl rfl rfl rfl ?_
   refine AL_guard_f rfl rfl rfl rfl ?_
   refine AL_ev (Ev_pick rfl) rfl ?_
   refine AL_ev (Ev_assign) rfl ?_
   refine AL_nil ?_
   refine hK9 _ _ _ ?_
   refine AC_ret ?_
   refine ret_ok hdm (.tmp rfl rfl .nil) (.cons .d .nil) ?_
   rw [dbB]
   try rw [hI]
   simp_all
   try omega
end Go.Proofs.YtjgliechbnommaaGreatDoor
set_option linter.unusedVariables false
set_option linter.unusedSimpArgs false
namespace Go.Proofs.YtjgliechbnommaaGreatDoor
open Go.Eng
theorem cl135 : Callable Tryz.prog 135 := Callable_of Tryz.func135 (by kernel_rfl) (by kernel_rfl)
theorem cl154 : Callable Tryz.prog 154 := Callable_of Tryz.func154 (by kernel_rfl) (by kernel_rfl)
theorem cl155 : Callable Tryz.prog 155 := Callable_of Tryz.func155 (by kernel_rfl) (by kernel_rfl)
theorem cl157 : Callable Tryz.prog 157 := Callable_of Tryz.func157 (by kernel_rfl) (by kernel_rfl)
theorem cl160 : Callable Tryz.prog 160 := Callable_of Tryz.func160 (by kernel_rfl) (by kernel_rfl)
theorem cl171 : Callable Tryz.prog 171 := Callable_of Tryz.func171 (by kernel_rfl) (by kernel_rfl)
set_option maxHeartbeats 1000000 in
set_option maxRecDepth 4000 in
theorem c_symbol (n : Int) : PCall Tryz.prog 160 [.c (.int .u8 n)] (· = [.c (.bool (symB n))]) := by
 have hsy : symB n = symL (bts ⟨#[43, 45, 42, 47, 92, 94, 60, 62, 61, 126, 58, 46, 63, 64, 35, 38, 36]⟩) n := rfl
 refine PCall_of (n := 16) Tryz.func160 rfl rfl (Nat.le_of_ble_eq_true rfl) fun C hdm hT0 => ?_
 have hT := hT0
 refine AC_seq fun K1 hK1 => ?_
 refine AC_region ?_
 refine AL_ev (Ev_assign) rfl ?_
 refine AL_nil ?_
 refine hK1 _ _ _ ?_
 refine AC_seq fun K2 hK2 => ?_
 refine AC_region ?_
 refine AL_ev (Ev_assign) rfl ?_
 refine AL_nil ?_
 refine hK2 _ _ _ ?_
 refine AC_seq fun K3 hK3 => ?_
 refine AC_seq fun K4 hK4 => ?_
 refine AC_region ?_
 refine AL_ev (Ev_assign) rfl ?_
 refine AL_nil ?_
 refine hK4 _ _ _ ?_
 refine AC_block ?_
 refine AC_loopS [0, 3] (Nat) (fun j => [(4, i64 j)]) (fun j => []) (fun st => (bts ⟨#[43, 45, 42, 47, 92, 94, 60, 62, 61, 126, 58, 46, 63, 64, 35, 38, 36]⟩).length - st) (fun j => j ≤ (bts ⟨#[43, 45, 42, 47, 92, 94, 60, 62, 61, 126, 58, 46, 63, 64, 35, 38, 36]⟩).length ∧ symL (bts ⟨#[43, 45, 42, 47, 92, 94, 60, 62, 61, 126, 58, 46, 63, 64, 35, 38, 36]⟩) n = symL ((bts ⟨#[43, 45, 42, 47, 92, 94, 60, 62, 61, 126, 58, 46, 63, 64, 35, 38, 36]⟩).drop j) n) (0) ?_ ?_ ?_
 ·exact enterS [] rfl rfl BxTo_nil (SlTo_cons (by exact .rd .d) (SlTo_cons (by exact .rd .d) (SlTo_cons (by exact .rd .d) SlTo_nil)))
 ·exact ⟨Nat.zero_le _, by simp⟩
 rintro j ⟨hj, hI⟩
 show AC _ _ _ _ _ (FS [0, 3] _ [(4, i64 j)]) []
 have hlb : (bts ⟨#[43, 45, 42, 47, 92, 94, 60, 62, 61, 126, 58, 46, 63, 64, 35, 38, 36]⟩).length ≤ 1099511627776 := by rw [bts_len]; decide
 refine AC_seq fun K5 hK5 => ?_
 refine AC_seq fun K6 hK6 => ?_
 refine AC_region ?_
 refine AL_ev (Ev_move) rfl ?_
 refine AL_ev (Ev_move) rfl ?_
 refine AL_ev (Ev_len_str tstr9 rfl) rfl ?_
 refine AL_ev (Ev_lss rfl rfl) rfl ?_
 refine AL_nil ?_
 refine hK6 _ _ _ ?_
 refine AC_cond rfl (fun hc1 => ?_) (fun hc1 => ?_)
 ·have hlt : j < (bts ⟨#[43, 45, 42, 47, 92, 94, 60, 62, 61, 126, 58, 46, 63, 64, 35, 38, 36]⟩).length := by simpa using hc1
  obtain ⟨u, hu⟩ : ∃ x, (bts ⟨#[43, 45, 42, 47, 92, 94, 60, 62, 61, 126, 58, 46, 63, 64, 35, 38, 36]⟩)[j]? = some x := ⟨_, List.getElem?_eq_getElem hlt⟩
  have hu2 := bts_get hu
  have hdr := drop_get hu
  refine AC_skip ?_
  refine hK5 _ _ _ ?_
  refine AC_seq fun K7 hK7 => ?_
  refine AC_block ?_
  refine AC_seq fun K8 hK8 => ?_
  refine AC_region ?_
  refine AL_ev (Ev_move) rfl ?_
  refine AL_ev (Ev_move) rfl ?_
  refine AL_ev (Ev_ix_str tstr9 rfl rfl (by omega) (by assumption)) rfl ?_
  refine AL_ev (Ev_move) rfl ?_
  refine AL_ev (Ev_eql rfl rfl) rfl ?_
  refine AL_nil ?_
  refine hK8 _ _ _ ?_
  refine AC_cond rfl (fun hc2 => ?_) (fun hc2 => ?_)
  ·refine AC_seq fun K9 hK9 => ?_
   refine AC_region ?_
   refine AL_ev (Ev_assign) rfl ?_
   refine AL_nil ?_
   refine hK9 _ _ _ ?_
   refine AC_ret ?_
   refine ret_ok hdm (.tmp rfl rfl .nil) (.cons .d .nil) ?_
   try rw [hsy]
   try rw [hI]
   try rw [hdr]
   try simp_all [List.length_pos_iff, symL]
  ·refine AC_skip ?_
   refine hK7 _ _ _ ?_
   refine AC_region ?_
   refine AL_ev (Ev_move) rfl ?_
   refine AL_ev (Ev_add rfl rfl _ (wrap_id (by omega) (by omega))) rfl ?_
   refine AL_ev (Ev_assign) rfl ?_
   refine AL_nil ?_
   refine closeS (j + 1) [] rfl rfl (by show (bts ⟨#[43, 45, 42, 47, 92, 94, 60, 62, 61, 126, 58, 46, 63, 64, 35, 38, 36]⟩).length - (j + 1) < (bts ⟨#[43, 45, 42, 47, 92, 94, 60, 62, 61, 126, 58, 46, 63, 64, 35, 38, 36]⟩).length - j; omega) ⟨hlt, ?_⟩ BxTo_nil (SlTo_cons (by exact .rd .d) (SlTo_cons (by exact .rd .d) (SlTo_cons (by exact .rd .d) SlTo_nil)))
   rw [hI]
   try rw [hdr]
   try simp_all [symL]
 ·have hj2 : j = (bts ⟨#[43, 45, 42, 47, 92, 94, 60, 62, 61, 126, 58, 46, 63, 64, 35, 38, 36]⟩).length := by
   have : ¬ j < (bts ⟨#[43, 45, 42, 47, 92, 94, 60, 62, 61, 126, 58, 46, 63, 64, 35, 38, 36]⟩).length := by simpa using hc1
   omega
  subst hj2
  rw [List.drop_length] at hI
  refine AC_exit ?_
  refine hK3 _ _ _ ?_
  refine AC_seq fun K10 hK10 => ?_
  refine AC_region ?_
  refine AL_ev (Ev_assign) rfl ?_
  refine AL_nil ?_
  refine hK10 _ _ _ ?_
  refine AC_ret ?_
  refine ret_ok hdm (.tmp rfl rfl .nil) (.cons .d .nil) ?_
  try rw [hsy]
  try rw [hI]
  try simp_all [List.length_pos_iff, symL]
set_option maxHeartbeats 1000000 in
set_option maxRecDepth 4000 in
theorem c_small (n : Int) : PCall Tryz.prog 154 [.c (.int .u8 n)] (· = [.c (.bool (smallB n))]) := by
 refine PCall_of (n := 9) Tryz.func154 rfl rfl (Nat.le_of_ble_eq_true rfl) fun C hdm hT0 => ?_
 have hT := hT0
 refine AC_seq fun K1 hK1 => ?_
 refine AC_region ?_
 refine AL_ev (Ev_assign) rfl ?_
 refine AL_nil ?_
 refine hK1 _ _ _ ?_
 refine AC_seq fun K2 hK2 => ?_
 refine AC_region ?_
 refine AL_ev (Ev_move) rfl ?_
 refine AL_ev (Ev_geq rfl rfl) rfl ?_
 refine AL_ev (Ev_move) rfl ?_
 refine AL_bool 5 rfl (fun hg1 => ?_) (fun hg1 => ?_)
 ·refine AL_guard_t rfl rfl rfl ?_
  refine AL_ev (Ev_move) rfl ?_
  refine AL_guard_t rfl rfl rfl ?_
  refine AL_ev (Ev_leq rfl rfl) rfl ?_
  refine AL_ev (Ev_pick rfl) rfl ?_
  refine AL_ev (Ev_assign) rfl ?_
  refine AL_nil ?_
  refine hK2 _ _ _ ?_
  refine AC_ret ?_
  refine ret_ok hdm (.tmp rfl rfl .nil) (.cons .d .nil) ?_
  (simp_all [smallB]; done)
 ·refine AL_guard_f rfl rfl rfl rfl ?_
  refine AL_guard_f rfl rfl rfl rfl ?_
  refine AL_ev (Ev_pick rfl) rfl ?_
  refine AL_ev (Ev_assign) rfl ?_
  refine AL_nil ?_
  refine hK2 _ _ _ ?_
  refine AC_ret ?_
  refine ret_ok hdm (.tmp rfl rfl .nil) (.cons .d .nil) ?_
  (simp_all [smallB]; omega)
set_option maxHeartbeats 1000000 in
set_option maxRecDepth 4000 in
theorem c_great (n : Int) : PCall Tryz.prog 155 [.c (.int .u8 n)] (· = [.c (.bool (greatB n))]) := by
 refine PCall_of (n := 13) Tryz.func155 rfl rfl (Nat.le_of_ble_eq_true rfl) fun C hdm hT0 => ?_
 have hT := hT0
 refine AC_seq fun K1 hK1 => ?_
 refine AC_region ?_
 refine AL_ev (Ev_assign) rfl ?_
 refine AL_nil ?_
 refine hK1 _ _ _ ?_
 refine AC_seq fun K2 hK2 => ?_
 refine AC_region ?_
 refine AL_ev (Ev_move) rfl ?_
 refine AL_ev (Ev_geq rfl rfl) rfl ?_
 refine AL_ev (Ev_move) rfl ?_
 refine AL_bool 5 rfl (fun hg1 => ?_) (fun hg1 => ?_)
 ·refine AL_guard_t rfl rfl rfl ?_
  refine AL_ev (Ev_move) rfl ?_
  refine AL_guard_t rfl rfl rfl ?_
  refine AL_ev (Ev_leq rfl rfl) rfl ?_
  refine AL_ev (Ev_pick rfl) rfl ?_
  refine AL_ev (Ev_move) rfl ?_
  refine AL_bool 9 rfl (fun hg2 => ?_) (fun hg2 => ?_)
  ·refine AL_guard_f rfl rfl rfl rfl ?_
   refine AL_guard_f rfl rfl rfl rfl ?_
   refine AL_ev (Ev_pick rfl) rfl ?_
   refine AL_ev (Ev_assign) rfl ?_
   refine AL_nil ?_
   refine hK2 _ _ _ ?_
   refine AC_ret ?_
   refine ret_ok hdm (.tmp rfl rfl .nil) (.cons .d .nil) ?_
   (simp_all [greatB]; done)
  ·refine AL_guard_t rfl rfl rfl ?_
   refine AL_ev (Ev_move) rfl ?_
   refine AL_guard_t rfl rfl rfl ?_
   refine AL_ev (Ev_eql rfl rfl) rfl ?_
   refine AL_ev (Ev_pick rfl) rfl ?_
   refine AL_ev (Ev_assign) rfl ?_
   refine AL_nil ?_
   refine hK2 _ _ _ ?_
   refine AC_ret ?_
   refine ret_ok hdm (.tmp rfl rfl .nil) (.cons .d .nil) ?_
   (simp_all [greatB]; omega)
 ·refine AL_guard_f rfl rfl rfl rfl ?_
  refine AL_guard_f rfl rfl rfl rfl ?_
  refine AL_ev (Ev_pick rfl) rfl ?_
  refine AL_ev (Ev_move) rfl ?_
  refine AL_guard_t rfl rfl rfl ?_
  refine AL_ev (Ev_move) rfl ?_
  refine AL_guard_t rfl rfl rfl ?_
  refine AL_ev (Ev_eql rfl rfl) rfl ?_
  refine AL_ev (Ev_pick rfl) rfl ?_
  refine AL_ev (Ev_assign) rfl ?_
  refine AL_nil ?_
  refine hK2 _ _ _ ?_
  refine AC_ret ?_
  refine ret_ok hdm (.tmp rfl rfl .nil) (.cons .d .nil) ?_
  (simp_all [greatB]; omega)
set_option maxHeartbeats 1000000 in
set_option maxRecDepth 4000 in
theorem c_fig (n : Int) : PCall Tryz.prog 157 [.c (.int .u8 n)] (· = [.c (.bool (figB n))]) := by
 refine PCall_of (n := 9) Tryz.func157 rfl rfl (Nat.le_of_ble_eq_true rfl) fun C hdm hT0 => ?_
 have hT := hT0
 refine AC_seq fun K1 hK1 => ?_
 refine AC_region ?_
 refine AL_ev (Ev_assign) rfl ?_
 refine AL_nil ?_
 refine hK1 _ _ _ ?_
 refine AC_seq fun K2 hK2 => ?_
 refine AC_region ?_
 refine AL_ev (Ev_move) rfl ?_
 refine AL_ev (Ev_geq rfl rfl) rfl ?_
 refine AL_ev (Ev_move) rfl ?_
 refine AL_bool 5 rfl (fun hg1 => ?_) (fun hg1 => ?_)
 ·refine AL_guard_t rfl rfl rfl ?_
  refine AL_ev (Ev_move) rfl ?_
  refine AL_guard_t rfl rfl rfl ?_
  refine AL_ev (Ev_leq rfl rfl) rfl ?_
  refine AL_ev (Ev_pick rfl) rfl ?_
  refine AL_ev (Ev_assign) rfl ?_
  refine AL_nil ?_
  refine hK2 _ _ _ ?_
  refine AC_ret ?_
  refine ret_ok hdm (.tmp rfl rfl .nil) (.cons .d .nil) ?_
  (simp_all [figB]; done)
 ·refine AL_guard_f rfl rfl rfl rfl ?_
  refine AL_guard_f rfl rfl rfl rfl ?_
  refine AL_ev (Ev_pick rfl) rfl ?_
  refine AL_ev (Ev_assign) rfl ?_
  refine AL_nil ?_
  refine hK2 _ _ _ ?_
  refine AC_ret ?_
  refine ret_ok hdm (.tmp rfl rfl .nil) (.cons .d .nil) ?_
  (simp_all [figB]; omega)
set_option maxHeartbeats 1000000 in
set_option maxRecDepth 4000 in
theorem c_blank (n : Int) : PCall Tryz.prog 135 [.c (.int .u8 n)] (· = [.c (.bool (blankB n))]) := by
 refine PCall_of (n := 13) Tryz.func135 rfl rfl (Nat.le_of_ble_eq_true rfl) fun C hdm hT0 => ?_
 have hT := hT0
 refine AC_seq fun K1 hK1 => ?_
 refine AC_region ?_
 refine AL_ev (Ev_assign) rfl ?_
 refine AL_nil ?_
 refine hK1 _ _ _ ?_
 refine AC_seq fun K2 hK2 => ?_
 refine AC_region ?_
 refine AL_ev (Ev_move) rfl ?_
 refine AL_ev (Ev_eql rfl rfl) rfl ?_
 refine AL_ev (Ev_move) rfl ?_
 refine AL_bool 5 rfl (fun hg1 => ?_) (fun hg1 => ?_)
 ·refine AL_guard_f rfl rfl rfl rfl ?_
  refine AL_guard_f rfl rfl rfl rfl ?_
  refine AL_ev (Ev_pick rfl) rfl ?_
  refine AL_ev (Ev_move) rfl ?_
  refine AL_guard_f rfl rfl rfl rfl ?_
  refine AL_guard_f rfl rfl rfl rfl ?_
  refine AL_ev (Ev_pick rfl) rfl ?_
  refine AL_ev (Ev_assign) rfl ?_
  refine AL_nil ?_
  refine hK2 _ _ _ ?_
  refine AC_ret ?_
  refine ret_ok hdm (.tmp rfl rfl .nil) (.cons .d .nil) ?_
  (simp_all [blankB]; done)
 ·refine AL_guard_t rfl rfl rfl ?_
  refine AL_ev (Ev_move) rfl ?_
  refine AL_guard_t rfl rfl rfl ?_
  refine AL_ev (Ev_eql rfl rfl) rfl ?_
  refine AL_ev (Ev_pick rfl) rfl ?_
  refine AL_ev (Ev_move) rfl ?_
  refine AL_bool 9 rfl (fun hg2 => ?_) (fun hg2 => ?_)
  ·refine AL_guard_f rfl rfl rfl rfl ?_
   refine AL_guard_f rfl rfl rfl rfl ?_
   refine AL_ev (Ev_pick rfl) rfl ?_
   refine AL_ev (Ev_assign) rfl ?_
   refine AL_nil ?_
   refine hK2 _ _ _ ?_
   refine AC_ret ?_
   refine ret_ok hdm (.tmp rfl rfl .nil) (.cons .d .nil) ?_
   (simp_all [blankB]; done)
  ·refine AL_guard_t rfl rfl rfl ?_
   refine AL_ev (Ev_move) rfl ?_
   refine AL_guard_t rfl rfl rfl ?_
   refine AL_ev (Ev_eql rfl rfl) rfl ?_
   refine AL_ev (Ev_pick rfl) rfl ?_
   refine AL_ev (Ev_assign) rfl ?_
   refine AL_nil ?_
   refine hK2 _ _ _ ?_
   refine AC_ret ?_
   refine ret_ok hdm (.tmp rfl rfl .nil) (.cons .d .nil) ?_
   (simp_all [blankB]; done)
set_option maxHeartbeats 1000000 in
set_option maxRecDepth 4000 in
theorem c_word (n : Int) : PCall Tryz.prog 171 [.c (.int .u8 n)] (· = [.c (.bool (wordB n))]) := by
 refine PCall_of (n := 13) Tryz.func171 rfl rfl (Nat.le_of_ble_eq_true rfl) fun C hdm hT0 => ?_
 have hT := hT0
 refine AC_seq fun K1 hK1 => ?_
 refine AC_region ?_
 refine AL_ev (Ev_assign) rfl ?_
 refine AL_nil ?_
 refine hK1 _ _ _ ?_
 refine AC_seq fun K2 hK2 => ?_
 refine AC_region ?_
 refine AL_ev (Ev_move) rfl ?_
 refine AL_fcall0 hT rfl cl154 (c_small n) rfl rfl ?_
 refine AL_ev (Ev_move) rfl ?_
 refine AL_bool 5 rfl (fun hg1 => ?_) (fun hg1 => ?_)
 ·refine AL_guard_f rfl rfl rfl rfl ?_
  refine AL_guard_f rfl rfl rfl rfl ?_
  refine AL_ev (Ev_pick rfl) rfl ?_
  refine AL_ev (Ev_move) rfl ?_
  refine AL_guard_f rfl rfl rfl rfl ?_
  refine AL_guard_f rfl rfl rfl rfl ?_
  refine AL_ev (Ev_pick rfl) rfl ?_
  refine AL_ev (Ev_assign) rfl ?_
  refine AL_nil ?_
  refine hK2 _ _ _ ?_
  refine AC_ret ?_
  refine ret_ok hdm (.tmp rfl rfl .nil) (.cons .d .nil) ?_
  (simp_all [wordB]; done)
 ·refine AL_guard_t rfl rfl rfl ?_
  refine AL_ev (Ev_move) rfl ?_
  refine AL_guard_t rfl rfl rfl ?_
  refine AL_fcall0 hT rfl cl155 (c_great n) rfl rfl ?_
  refine AL_ev (Ev_pick rfl) rfl ?_
  refine AL_ev (Ev_move) rfl ?_
  refine AL_bool 9 rfl (fun hg2 => ?_) (fun hg2 => ?_)
  ·refine AL_guard_f rfl rfl rfl rfl ?_
   refine AL_guard_f rfl rfl rfl rfl ?_
   refine AL_ev (Ev_pick rfl) rfl ?_
   refine AL_ev (Ev_assign) rfl ?_
   refine AL_nil ?_
   refine hK2 _ _ _ ?_
   refine AC_ret ?_
   refine ret_ok hdm (.tmp rfl rfl .nil) (.cons .d .nil) ?_
   (simp_all [wordB]; done)
  ·refine AL_guard_t rfl rfl rfl ?_
   refine AL_ev (Ev_move) rfl ?_
   refine AL_guard_t rfl rfl rfl ?_
   refine AL_fcall0 hT rfl cl157 (c_fig n) rfl rfl ?_
   refine AL_ev (Ev_pick rfl) rfl ?_
   refine AL_ev (Ev_assign) rfl ?_
   refine AL_nil ?_
   refine hK2 _ _ _ ?_
   refine AC_ret ?_
   refine ret_ok hdm (.tmp rfl rfl .nil) (.cons .d .nil) ?_
   (simp_all [wordB]; done)
set_option maxHeartbeats 1000000 in
set_option maxRecDepth 4000 in
theorem c_run (t : ByteArray) (i : Nat) (hs : t.size ≤ 1099511627776) (hi : i ≤ t.size) : PCall Tryz.prog 156 [.c (.string t), .c (.int .i64 ((i : Nat) : Int))] (· = [.c (.int .i64 ((i + runL wordB ((bts t).drop i) : Nat) : Int))]) := by
 refine PCall_of (n := 18) Tryz.func156 rfl rfl (Nat.le_of_ble_eq_true rfl) fun C hdm hT0 => ?_
 have hT := hT0
 refine AC_seq fun K1 hK1 => ?_
 refine AC_region ?_
 refine AL_ev (Ev_assign) rfl ?_
 refine AL_nil ?_
 refine hK1 _ _ _ ?_
 refine AC_seq fun K2 hK2 => ?_
 refine AC_block ?_
 refine AC_loopS [0] (Nat) (fun j => [(1, i64 ((j : Nat) : Int))]) (fun j => []) (fun st => t.size - st) (fun j => (i ≤ j ∧ j ≤ t.size ∧ i + runL wordB ((bts t).drop i) = j + runL wordB ((bts t).drop j))) (i) ?_ ?_ ?_
 ·exact enterS [] rfl rfl BxTo_nil (SlTo_cons (by exact .rd .d) (SlTo_cons (by exact .rd .d) SlTo_nil))
 ·exact ⟨Nat.le_refl _, by omega, rfl⟩
 rintro j ⟨hj0, hj1, hI⟩
 show AC _ _ _ _ _ (FS [0] _ [(1, i64 ((j : Nat) : Int))]) []
 refine AC_seq fun K3 hK3 => ?_
 refine AC_seq fun K4 hK4 => ?_
 refine AC_region ?_
 refine AL_ev (Ev_move) rfl ?_
 refine AL_ev (Ev_move) rfl ?_
 refine AL_ev (Ev_len_str tstr9 rfl) rfl ?_
 refine AL_ev (Ev_lss rfl rfl) rfl ?_
 refine AL_ev (Ev_move) rfl ?_
 refine AL_bool 9 rfl (fun hg1 => ?_) (fun hg1 => ?_)
 ·have hlt : j < t.size := by have := of_decide_eq_true hg1; omega
  have hjbu : j < (bts t).length := by rw [bts_len]; omega
  refine Exists.elim (show ∃ v, (bts t)[j]? = some v from ⟨_, List.getElem?_eq_getElem hjbu⟩) fun u hu => ?_
  have hu2 := bts_get hu
  have hub := UInt8.toNat_lt u
  have hdr := drop_get hu
  refine AL_guard_t rfl rfl rfl ?_
  refine AL_ev (Ev_move) rfl ?_
  refine AL_guard_t rfl rfl rfl ?_
  refine AL_ev (Ev_move) rfl ?_
  refine AL_guard_t rfl rfl rfl ?_
  refine AL_ev (Ev_ix_str tstr9 rfl rfl (by omega) (by assumption)) rfl ?_
  refine AL_guard_t rfl rfl rfl ?_
  refine AL_fcall0 hT rfl cl171 (c_word (u.toNat : Int)) rfl rfl ?_
  refine AL_ev (Ev_pick rfl) rfl ?_
  refine AL_nil ?_
  refine hK4 _ _ _ ?_
  refine AC_cond rfl (fun hc2 => ?_) (fun hc2 => ?_)
  ·refine AC_skip ?_
   refine hK3 _ _ _ ?_
   refine AC_block ?_
   refine AC_region ?_
   refine AL_ev (Ev_move) rfl ?_
   refine AL_ev (Ev_add rfl rfl _ (wrap_id (by omega) (by omega))) rfl ?_
   refine AL_ev (Ev_assign) rfl ?_
   refine AL_nil ?_
   refine closeS (j + 1) [] rfl rfl (by show t.size - (j + 1) < t.size - j; omega) ?_ BxTo_nil (SlTo_cons (by exact .rd .d) (SlTo_cons (by exact .rd .d) SlTo_nil))
   exact ⟨by omega, by omega, by rw [hI, hdr]; simp_all [runL]; omega⟩
  ·have hI2 : i + runL wordB ((bts t).drop i) = j := by rw [hI, hdr]; simp_all [runL]
   refine AC_exit ?_
   refine hK2 _ _ _ ?_
   refine AC_seq fun K5 hK5 => ?_
   refine AC_region ?_
   refine AL_ev (Ev_move) rfl ?_
   refine AL_ev (Ev_assign) rfl ?_
   refine AL_nil ?_
   refine hK5 _ _ _ ?_
   refine AC_ret ?_
   refine ret_ok hdm (.tmp rfl rfl .nil) (.cons .d .nil) ?_
   rw [hI2]
 ·have hge : t.size ≤ j := by have := of_decide_eq_false hg1; omega
  have hI2 : i + runL wordB ((bts t).drop i) = j := by rw [hI, List.drop_eq_nil_of_le (by simp; omega)]; rfl
  refine AL_guard_f rfl rfl rfl rfl ?_
  refine AL_guard_f rfl rfl rfl rfl ?_
  refine AL_guard_f rfl rfl rfl rfl ?_
  refine AL_guard_f rfl rfl rfl rfl ?_
  refine AL_ev (Ev_pick rfl) rfl ?_
  refine AL_nil ?_
  refine hK4 _ _ _ ?_
  refine AC_cond_f rfl ?_
  refine AC_exit ?_
  refine hK2 _ _ _ ?_
  refine AC_seq fun K6 hK6 => ?_
  refine AC_region ?_
  refine AL_ev (Ev_move) rfl ?_
  refine AL_ev (Ev_assign) rfl ?_
  refine AL_nil ?_
  refine hK6 _ _ _ ?_
  refine AC_ret ?_
  refine ret_ok hdm (.tmp rfl rfl .nil) (.cons .d .nil) ?_
  rw [hI2]
set_option maxHeartbeats 1000000 in
set_option maxRecDepth 4000 in
theorem c_end (t : ByteArray) (i : Nat) (u : UInt8) (hs : t.size ≤ 1099511627776) (hu : (bts t)[i]? = some u) : PCall Tryz.prog 159 [.c (.string t), .c (.int .i64 ((i : Nat) : Int))] (· = [.c (.bool (endB t i))]) := by
 have hu2 := bts_get hu
 have hlt : i < t.size := by simpa using lt_of_get hu
 have hub := byteI_get hu
 refine PCall_of (n := 42) Tryz.func159 rfl rfl (Nat.le_of_ble_eq_true rfl) fun C hdm hT0 => ?_
 have hT := hT0
 refine AC_seq fun K1 hK1 => ?_
 refine AC_region ?_
 refine AL_ev (Ev_assign) rfl ?_
 refine AL_nil ?_
 refine hK1 _ _ _ ?_
 refine AC_seq fun K2 hK2 => ?_
 refine AC_region ?_
 refine AL_ev (Ev_move) rfl ?_
 refine AL_ev (Ev_move) rfl ?_
 refine AL_ev (Ev_ix_str tstr9 rfl rfl (by omega) (by assumption)) rfl ?_
 refine AL_ev (Ev_eql rfl rfl) rfl ?_
 refine AL_ev (Ev_move) rfl ?_
 refine AL_bool 9 rfl (fun hg1 => ?_) (fun hg1 => ?_)
 ·first
   | (have h9 : ¬ ((i : Int) + 1 = t.size) := of_decide_eq_false hg1
      have hsz : ¬ (i + 1 = t.size) := by omega
      obtain ⟨z, hz⟩ : ∃ z, (bts t)[i + 1]? = some z := ⟨_, List.getElem?_eq_getElem (by simp; omega)⟩
      have hz2 : t[((i : Int) + 1).toNat]? = some z := by have := bts_get hz; rw [show ((i : Int) + 1).toNat = i + 1 by omega]; simpa using this
      have hzb := byteI_get hz)
   | (have h9 : (i : Int) + 1 = t.size := of_decide_eq_true hg1
      have hsz : i + 1 = t.size := by omega)
   | skip
  refine AL_guard_t rfl rfl rfl ?_
  refine AL_ev (Ev_move) rfl ?_
  refine AL_guard_t rfl rfl rfl ?_
  refine AL_ev (Ev_eql rfl rfl) rfl ?_
  refine AL_guard_t rfl rfl rfl ?_
  refine AL_ev (Ev_move) rfl ?_
  refine AL_bool 12 rfl (fun hg2 => ?_) (fun hg2 => ?_)
  ·first
    | (have h9 : ¬ ((i : Int) + 1 = t.size) := of_decide_eq_false hg2
       have hsz : ¬ (i + 1 = t.size) := by omega
       obtain ⟨z, hz⟩ : ∃ z, (bts t)[i + 1]? = some z := ⟨_, List.getElem?_eq_getElem (by simp; omega)⟩
       have hz2 : t[((i : Int) + 1).toNat]? = some z := by have := bts_get hz; rw [show ((i : Int) + 1).toNat = i + 1 by omega]; simpa using this
       have hzb := byteI_get hz)
    | (have h9 : (i : Int) + 1 = t.size := of_decide_eq_true hg2
       have hsz : i + 1 = t.size := by omega)
    | skip
   refine AL_guard_f rfl rfl rfl rfl ?_
   refine AL_guard_f rfl rfl rfl rfl ?_
   refine AL_guard_f rfl rfl rfl rfl ?_
   refine AL_guard_f rfl rfl rfl rfl ?_
   refine AL_guard_f rfl rfl rfl rfl ?_
   refine AL_guard_f rfl rfl rfl rfl ?_
   refine AL_guard_t rfl rfl rfl ?_
   refine AL_ev (Ev_pick rfl) rfl ?_
   refine AL_ev (Ev_pick rfl) rfl ?_
   refine AL_ev (Ev_move) rfl ?_
   refine AL_guard_t rfl rfl rfl ?_
   refine AL_ev (Ev_move) rfl ?_
   refine AL_guard_t rfl rfl rfl ?_
   refine AL_ev (Ev_add rfl rfl _ (wrap_id (by omega) (by omega))) rfl ?_
   refine AL_guard_t rfl rfl rfl ?_
   refine AL_ev (Ev_move) rfl ?_
   refine AL_guard_t rfl rfl rfl ?_
   refine AL_ev (Ev_len_str tstr9 rfl) rfl ?_
   refine AL_guard_t rfl rfl rfl ?_
   refine AL_ev (Ev_eql rfl rfl) rfl ?_
   refine AL_guard_t rfl rfl rfl ?_
   refine AL_ev (Ev_move) rfl ?_
   refine AL_bool 27 rfl (fun hg3 => ?_) (fun hg3 => ?_)
   ·first
     | (have h9 : ¬ ((i : Int) + 1 = t.size) := of_decide_eq_false hg3
        have hsz : ¬ (i + 1 = t.size) := by omega
        obtain ⟨z, hz⟩ : ∃ z, (bts t)[i + 1]? = some z := ⟨_, List.getElem?_eq_getElem (by simp; omega)⟩
        have hz2 : t[((i : Int) + 1).toNat]? = some z := by have := bts_get hz; rw [show ((i : Int) + 1).toNat = i + 1 by omega]; simpa using this
        have hzb := byteI_get hz)
     | (have h9 : (i : Int) + 1 = t.size := of_decide_eq_true hg3
        have hsz : i + 1 = t.size := by omega)
     | skip
    refine AL_guard_f rfl rfl rfl rfl ?_
    refine AL_guard_f rfl rfl rfl rfl ?_
    refine AL_guard_f rfl rfl rfl rfl ?_
    refine AL_guard_f rfl rfl rfl rfl ?_
    refine AL_guard_f rfl rfl rfl rfl ?_
    refine AL_guard_t rfl rfl rfl ?_
    refine AL_ev (Ev_pick rfl) rfl ?_
    refine AL_guard_t rfl rfl rfl ?_
    refine AL_ev (Ev_move) rfl ?_
    refine AL_guard_f rfl rfl rfl rfl ?_
    refine AL_guard_f rfl rfl rfl rfl ?_
    refine AL_guard_f rfl rfl rfl rfl ?_
    refine AL_guard_f rfl rfl rfl rfl ?_
    refine AL_guard_f rfl rfl rfl rfl ?_
    refine AL_guard_t rfl rfl rfl ?_
    refine AL_ev (Ev_pick rfl) rfl ?_
    refine AL_ev (Ev_pick rfl) rfl ?_
    refine AL_ev (Ev_assign) rfl ?_
    refine AL_nil ?_
    refine hK2 _ _ _ ?_
    refine AC_ret ?_
    refine ret_ok hdm (.tmp rfl rfl .nil) (.cons .d .nil) ?_
    (simp_all [endB]; done)
   ·first
     | (have h9 : ¬ ((i : Int) + 1 = t.size) := of_decide_eq_false hg3
        have hsz : ¬ (i + 1 = t.size) := by omega
        obtain ⟨z, hz⟩ : ∃ z, (bts t)[i + 1]? = some z := ⟨_, List.getElem?_eq_getElem (by simp; omega)⟩
        have hz2 : t[((i : Int) + 1).toNat]? = some z := by have := bts_get hz; rw [show ((i : Int) + 1).toNat = i + 1 by omega]; simpa using this
        have hzb := byteI_get hz)
     | (have h9 : (i : Int) + 1 = t.size := of_decide_eq_true hg3
        have hsz : i + 1 = t.size := by omega)
     | skip
    refine AL_guard_t rfl rfl rfl ?_
    refine AL_ev (Ev_move) rfl ?_
    refine AL_guard_t rfl rfl rfl ?_
    refine AL_ev (Ev_move) rfl ?_
    refine AL_guard_t rfl rfl rfl ?_
    refine AL_ev (Ev_add rfl rfl _ (wrap_id (by omega) (by omega))) rfl ?_
    refine AL_guard_t rfl rfl rfl ?_
    refine AL_ev (Ev_ix_str tstr9 rfl rfl (by omega) (by assumption)) rfl ?_
    refine AL_guard_t rfl rfl rfl ?_
    refine AL_fcall0 hT rfl cl135 (c_blank (z.toNat : Int)) rfl rfl ?_
    refine AL_guard_t rfl rfl rfl ?_
    refine AL_ev (Ev_pick rfl) rfl ?_
    refine AL_guard_t rfl rfl rfl ?_
    refine AL_ev (Ev_move) rfl ?_
    refine AL_bool 34 rfl (fun hg4 => ?_) (fun hg4 => ?_)
    ·first
      | (have h9 : ¬ ((i : Int) + 1 = t.size) := of_decide_eq_false hg4
         have hsz : ¬ (i + 1 = t.size) := by omega
         obtain ⟨z, hz⟩ : ∃ z, (bts t)[i + 1]? = some z := ⟨_, List.getElem?_eq_getElem (by simp; omega)⟩
         have hz2 : t[((i : Int) + 1).toNat]? = some z := by have := bts_get hz; rw [show ((i : Int) + 1).toNat = i + 1 by omega]; simpa using this
         have hzb := byteI_get hz)
      | (have h9 : (i : Int) + 1 = t.size := of_decide_eq_true hg4
         have hsz : i + 1 = t.size := by omega)
      | skip
     refine AL_guard_f rfl rfl rfl rfl ?_
     refine AL_guard_f rfl rfl rfl rfl ?_
     refine AL_guard_f rfl rfl rfl rfl ?_
     refine AL_guard_f rfl rfl rfl rfl ?_
     refine AL_guard_f rfl rfl rfl rfl ?_
     refine AL_guard_t rfl rfl rfl ?_
     refine AL_ev (Ev_pick rfl) rfl ?_
     refine AL_ev (Ev_pick rfl) rfl ?_
     refine AL_ev (Ev_assign) rfl ?_
     refine AL_nil ?_
     refine hK2 _ _ _ ?_
     refine AC_ret ?_
     refine ret_ok hdm (.tmp rfl rfl .nil) (.cons .d .nil) ?_
     (simp_all [endB]; done)
    ·first
      | (have h9 : ¬ ((i : Int) + 1 = t.size) := of_decide_eq_false hg4
         have hsz : ¬ (i + 1 = t.size) := by omega
         obtain ⟨z, hz⟩ : ∃ z, (bts t)[i + 1]? = some z := ⟨_, List.getElem?_eq_getElem (by simp; omega)⟩
         have hz2 : t[((i : Int) + 1).toNat]? = some z := by have := bts_get hz; rw [show ((i : Int) + 1).toNat = i + 1 by omega]; simpa using this
         have hzb := byteI_get hz)
      | (have h9 : (i : Int) + 1 = t.size := of_decide_eq_true hg4
         have hsz : i + 1 = t.size := by omega)
      | skip
     refine AL_guard_t rfl rfl rfl ?_
     refine AL_ev (Ev_move) rfl ?_
     refine AL_guard_t rfl rfl rfl ?_
     refine AL_ev (Ev_move) rfl ?_
     refine AL_guard_t rfl rfl rfl ?_
     refine AL_ev (Ev_add rfl rfl _ (wrap_id (by omega) (by omega))) rfl ?_
     refine AL_guard_t rfl rfl rfl ?_
     refine AL_ev (Ev_ix_str tstr9 rfl rfl (by omega) (by assumption)) rfl ?_
     refine AL_guard_t rfl rfl rfl ?_
     refine AL_ev (Ev_eql rfl rfl) rfl ?_
     refine AL_guard_t rfl rfl rfl ?_
     refine AL_ev (Ev_pick rfl) rfl ?_
     refine AL_ev (Ev_pick rfl) rfl ?_
     refine AL_ev (Ev_assign) rfl ?_
     refine AL_nil ?_
     refine hK2 _ _ _ ?_
     refine AC_ret ?_
     refine ret_ok hdm (.tmp rfl rfl .nil) (.cons .d .nil) ?_
     (simp_all [endB]; done)
  ·have hi0 : 0 < i := by have := of_decide_eq_false hg2; omega
   obtain ⟨v, hv⟩ : ∃ v, (bts t)[i - 1]? = some v := ⟨_, List.getElem?_eq_getElem (by simp; omega)⟩
   have hv2 : t[((i : Int) - 1).toNat]? = some v := by have := bts_get hv; rw [show ((i : Int) - 1).toNat = i - 1 by omega]; simpa using this
   have hvb := byteI_get hv
   have hv9 := UInt8.toNat_lt v
   refine AL_guard_t rfl rfl rfl ?_
   refine AL_ev (Ev_move) rfl ?_
   refine AL_guard_t rfl rfl rfl ?_
   refine AL_ev (Ev_move) rfl ?_
   refine AL_guard_t rfl rfl rfl ?_
   refine AL_ev (Ev_sub rfl rfl _ (wrap_id (by omega) (by omega))) rfl ?_
   refine AL_guard_t rfl rfl rfl ?_
   refine AL_ev (Ev_ix_str tstr9 rfl rfl (by omega) (by assumption)) rfl ?_
   refine AL_guard_t rfl rfl rfl ?_
   refine AL_fcall0 hT rfl cl160 (c_symbol (v.toNat : Int)) rfl rfl ?_
   refine AL_guard_t rfl rfl rfl ?_
   refine AL_ev (Ev_not rfl) rfl ?_
   refine AL_guard_t rfl rfl rfl ?_
   refine AL_ev (Ev_pick rfl) rfl ?_
   refine AL_ev (Ev_pick rfl) rfl ?_
   refine AL_ev (Ev_move) rfl ?_
   refine AL_bool 21 rfl (fun hg5 => ?_) (fun hg5 => ?_)
   ·first
     | (have h9 : ¬ ((i : Int) + 1 = t.size) := of_decide_eq_false hg5
        have hsz : ¬ (i + 1 = t.size) := by omega
        obtain ⟨z, hz⟩ : ∃ z, (bts t)[i + 1]? = some z := ⟨_, List.getElem?_eq_getElem (by simp; omega)⟩
        have hz2 : t[((i : Int) + 1).toNat]? = some z := by have := bts_get hz; rw [show ((i : Int) + 1).toNat = i + 1 by omega]; simpa using this
        have hzb := byteI_get hz)
     | (have h9 : (i : Int) + 1 = t.size := of_decide_eq_true hg5
        have hsz : i + 1 = t.size := by omega)
     | skip
    refine AL_guard_t rfl rfl rfl ?_
    refine AL_ev (Ev_move) rfl ?_
    refine AL_guard_t rfl rfl rfl ?_
    refine AL_ev (Ev_add rfl rfl _ (wrap_id (by omega) (by omega))) rfl ?_
    refine AL_guard_t rfl rfl rfl ?_
    refine AL_ev (Ev_move) rfl ?_
    refine AL_guard_t rfl rfl rfl ?_
    refine AL_ev (Ev_len_str tstr9 rfl) rfl ?_
    refine AL_guard_t rfl rfl rfl ?_
    refine AL_ev (Ev_eql rfl rfl) rfl ?_
    refine AL_guard_t rfl rfl rfl ?_
    refine AL_ev (Ev_move) rfl ?_
    refine AL_bool 27 rfl (fun hg6 => ?_) (fun hg6 => ?_)
    ·first
      | (have h9 : ¬ ((i : Int) + 1 = t.size) := of_decide_eq_false hg6
         have hsz : ¬ (i + 1 = t.size) := by omega
         obtain ⟨z, hz⟩ : ∃ z, (bts t)[i + 1]? = some z := ⟨_, List.getElem?_eq_getElem (by simp; omega)⟩
         have hz2 : t[((i : Int) + 1).toNat]? = some z := by have := bts_get hz; rw [show ((i : Int) + 1).toNat = i + 1 by omega]; simpa using this
         have hzb := byteI_get hz)
      | (have h9 : (i : Int) + 1 = t.size := of_decide_eq_true hg6
         have hsz : i + 1 = t.size := by omega)
      | skip
     refine AL_guard_f rfl rfl rfl rfl ?_
     refine AL_guard_f rfl rfl rfl rfl ?_
     refine AL_guard_f rfl rfl rfl rfl ?_
     refine AL_guard_f rfl rfl rfl rfl ?_
     refine AL_guard_f rfl rfl rfl rfl ?_
     refine AL_guard_t rfl rfl rfl ?_
     refine AL_ev (Ev_pick rfl) rfl ?_
     refine AL_guard_t rfl rfl rfl ?_
     refine AL_ev (Ev_move) rfl ?_
     refine AL_guard_f rfl rfl rfl rfl ?_
     refine AL_guard_f rfl rfl rfl rfl ?_
     refine AL_guard_f rfl rfl rfl rfl ?_
     refine AL_guard_f rfl rfl rfl rfl ?_
     refine AL_guard_f rfl rfl rfl rfl ?_
     refine AL_guard_t rfl rfl rfl ?_
     refine AL_ev (Ev_pick rfl) rfl ?_
     refine AL_ev (Ev_pick rfl) rfl ?_
     refine AL_ev (Ev_assign) rfl ?_
     refine AL_nil ?_
     refine hK2 _ _ _ ?_
     refine AC_ret ?_
     refine ret_ok hdm (.tmp rfl rfl .nil) (.cons .d .nil) ?_
     (simp_all [endB]; done)
    ·first
      | (have h9 : ¬ ((i : Int) + 1 = t.size) := of_decide_eq_false hg6
         have hsz : ¬ (i + 1 = t.size) := by omega
         obtain ⟨z, hz⟩ : ∃ z, (bts t)[i + 1]? = some z := ⟨_, List.getElem?_eq_getElem (by simp; omega)⟩
         have hz2 : t[((i : Int) + 1).toNat]? = some z := by have := bts_get hz; rw [show ((i : Int) + 1).toNat = i + 1 by omega]; simpa using this
         have hzb := byteI_get hz)
      | (have h9 : (i : Int) + 1 = t.size := of_decide_eq_true hg6
         have hsz : i + 1 = t.size := by omega)
      | skip
     refine AL_guard_t rfl rfl rfl ?_
     refine AL_ev (Ev_move) rfl ?_
     refine AL_guard_t rfl rfl rfl ?_
     refine AL_ev (Ev_move) rfl ?_
     refine AL_guard_t rfl rfl rfl ?_
     refine AL_ev (Ev_add rfl rfl _ (wrap_id (by omega) (by omega))) rfl ?_
     refine AL_guard_t rfl rfl rfl ?_
     refine AL_ev (Ev_ix_str tstr9 rfl rfl (by omega) (by assumption)) rfl ?_
     refine AL_guard_t rfl rfl rfl ?_
     refine AL_fcall0 hT rfl cl135 (c_blank (z.toNat : Int)) rfl rfl ?_
     refine AL_guard_t rfl rfl rfl ?_
     refine AL_ev (Ev_pick rfl) rfl ?_
     refine AL_guard_t rfl rfl rfl ?_
     refine AL_ev (Ev_move) rfl ?_
     refine AL_bool 34 rfl (fun hg7 => ?_) (fun hg7 => ?_)
     ·first
       | (have h9 : ¬ ((i : Int) + 1 = t.size) := of_decide_eq_false hg7
          have hsz : ¬ (i + 1 = t.size) := by omega
          obtain ⟨z, hz⟩ : ∃ z, (bts t)[i + 1]? = some z := ⟨_, List.getElem?_eq_getElem (by simp; omega)⟩
          have hz2 : t[((i : Int) + 1).toNat]? = some z := by have := bts_get hz; rw [show ((i : Int) + 1).toNat = i + 1 by omega]; simpa using this
          have hzb := byteI_get hz)
       | (have h9 : (i : Int) + 1 = t.size := of_decide_eq_true hg7
          have hsz : i + 1 = t.size := by omega)
       | skip
      refine AL_guard_f rfl rfl rfl rfl ?_
      refine AL_guard_f rfl rfl rfl rfl ?_
      refine AL_guard_f rfl rfl rfl rfl ?_
      refine AL_guard_f rfl rfl rfl rfl ?_
      refine AL_guard_f rfl rfl rfl rfl ?_
      refine AL_guard_t rfl rfl rfl ?_
      refine AL_ev (Ev_pick rfl) rfl ?_
      refine AL_ev (Ev_pick rfl) rfl ?_
      refine AL_ev (Ev_assign) rfl ?_
      refine AL_nil ?_
      refine hK2 _ _ _ ?_
      refine AC_ret ?_
      refine ret_ok hdm (.tmp rfl rfl .nil) (.cons .d .nil) ?_
      (simp_all [endB]; done)
     ·first
       | (have h9 : ¬ ((i : Int) + 1 = t.size) := of_decide_eq_false hg7
          have hsz : ¬ (i + 1 = t.size) := by omega
          obtain ⟨z, hz⟩ : ∃ z, (bts t)[i + 1]? = some z := ⟨_, List.getElem?_eq_getElem (by simp; omega)⟩
          have hz2 : t[((i : Int) + 1).toNat]? = some z := by have := bts_get hz; rw [show ((i : Int) + 1).toNat = i + 1 by omega]; simpa using this
          have hzb := byteI_get hz)
       | (have h9 : (i : Int) + 1 = t.size := of_decide_eq_true hg7
          have hsz : i + 1 = t.size := by omega)
       | skip
      refine AL_guard_t rfl rfl rfl ?_
      refine AL_ev (Ev_move) rfl ?_
      refine AL_guard_t rfl rfl rfl ?_
      refine AL_ev (Ev_move) rfl ?_
      refine AL_guard_t rfl rfl rfl ?_
      refine AL_ev (Ev_add rfl rfl _ (wrap_id (by omega) (by omega))) rfl ?_
      refine AL_guard_t rfl rfl rfl ?_
      refine AL_ev (Ev_ix_str tstr9 rfl rfl (by omega) (by assumption)) rfl ?_
      refine AL_guard_t rfl rfl rfl ?_
      refine AL_ev (Ev_eql rfl rfl) rfl ?_
      refine AL_guard_t rfl rfl rfl ?_
      refine AL_ev (Ev_pick rfl) rfl ?_
      refine AL_ev (Ev_pick rfl) rfl ?_
      refine AL_ev (Ev_assign) rfl ?_
      refine AL_nil ?_
      refine hK2 _ _ _ ?_
      refine AC_ret ?_
      refine ret_ok hdm (.tmp rfl rfl .nil) (.cons .d .nil) ?_
      (simp_all [endB]; done)
   ·first
     | (have h9 : ¬ ((i : Int) + 1 = t.size) := of_decide_eq_false hg5
        have hsz : ¬ (i + 1 = t.size) := by omega
        obtain ⟨z, hz⟩ : ∃ z, (bts t)[i + 1]? = some z := ⟨_, List.getElem?_eq_getElem (by simp; omega)⟩
        have hz2 : t[((i : Int) + 1).toNat]? = some z := by have := bts_get hz; rw [show ((i : Int) + 1).toNat = i + 1 by omega]; simpa using this
        have hzb := byteI_get hz)
     | (have h9 : (i : Int) + 1 = t.size := of_decide_eq_true hg5
        have hsz : i + 1 = t.size := by omega)
     | skip
    refine AL_guard_f rfl rfl rfl rfl ?_
    refine AL_guard_f rfl rfl rfl rfl ?_
    refine AL_guard_f rfl rfl rfl rfl ?_
    refine AL_guard_f rfl rfl rfl rfl ?_
    refine AL_guard_f rfl rfl rfl rfl ?_
    refine AL_guard_f rfl rfl rfl rfl ?_
    refine AL_guard_u rfl rfl rfl rfl ?_
    refine AL_guard_u rfl rfl rfl rfl ?_
    refine AL_guard_u rfl rfl rfl rfl ?_
    refine AL_guard_u rfl rfl rfl rfl ?_
    refine AL_guard_u rfl rfl rfl rfl ?_
    refine AL_guard_f rfl rfl rfl rfl ?_
    refine AL_guard_f rfl rfl rfl rfl ?_
    refine AL_guard_u rfl rfl rfl rfl ?_
    refine AL_guard_u rfl rfl rfl rfl ?_
    refine AL_guard_u rfl rfl rfl rfl ?_
    refine AL_guard_u rfl rfl rfl rfl ?_
    refine AL_guard_u rfl rfl rfl rfl ?_
    refine AL_guard_f rfl rfl rfl rfl ?_
    refine AL_ev (Ev_pick rfl) rfl ?_
    refine AL_ev (Ev_assign) rfl ?_
    refine AL_nil ?_
    refine hK2 _ _ _ ?_
    refine AC_ret ?_
    refine ret_ok hdm (.tmp rfl rfl .nil) (.cons .d .nil) ?_
    (simp_all [endB]; done)
 ·first
   | (have h9 : ¬ ((i : Int) + 1 = t.size) := of_decide_eq_false hg1
      have hsz : ¬ (i + 1 = t.size) := by omega
      obtain ⟨z, hz⟩ : ∃ z, (bts t)[i + 1]? = some z := ⟨_, List.getElem?_eq_getElem (by simp; omega)⟩
      have hz2 : t[((i : Int) + 1).toNat]? = some z := by have := bts_get hz; rw [show ((i : Int) + 1).toNat = i + 1 by omega]; simpa using this
      have hzb := byteI_get hz)
   | (have h9 : (i : Int) + 1 = t.size := of_decide_eq_true hg1
      have hsz : i + 1 = t.size := by omega)
   | skip
  refine AL_guard_f rfl rfl rfl rfl ?_
  refine AL_guard_f rfl rfl rfl rfl ?_
  refine AL_guard_f rfl rfl rfl rfl ?_
  refine AL_guard_u rfl rfl rfl rfl ?_
  refine AL_guard_u rfl rfl rfl rfl ?_
  refine AL_guard_u rfl rfl rfl rfl ?_
  refine AL_guard_u rfl rfl rfl rfl ?_
  refine AL_guard_u rfl rfl rfl rfl ?_
  refine AL_guard_u rfl rfl rfl rfl ?_
  refine AL_guard_f rfl rfl rfl rfl ?_
  refine AL_ev (Ev_pick rfl) rfl ?_
  refine AL_ev (Ev_move) rfl ?_
  refine AL_guard_f rfl rfl rfl rfl ?_
  refine AL_guard_f rfl rfl rfl rfl ?_
  refine AL_guard_f rfl rfl rfl rfl ?_
  refine AL_guard_f rfl rfl rfl rfl ?_
  refine AL_guard_f rfl rfl rfl rfl ?_
  refine AL_guard_f rfl rfl rfl rfl ?_
  refine AL_guard_u rfl rfl rfl rfl ?_
  refine AL_guard_u rfl rfl rfl rfl ?_
  refine AL_guard_u rfl rfl rfl rfl ?_
  refine AL_guard_u rfl rfl rfl rfl ?_
  refine AL_guard_u rfl rfl rfl rfl ?_
  refine AL_guard_f rfl rfl rfl rfl ?_
  refine AL_guard_f rfl rfl rfl rfl ?_
  refine AL_guard_u rfl rfl rfl rfl ?_
  refine AL_guard_u rfl rfl rfl rfl ?_
  refine AL_guard_u rfl rfl rfl rfl ?_
  refine AL_guard_u rfl rfl rfl rfl ?_
  refine AL_guard_u rfl rfl rfl rfl ?_
  refine AL_guard_f rfl rfl rfl rfl ?_
  refine AL_ev (Ev_pick rfl) rfl ?_
  refine AL_ev (Ev_assign) rfl ?_
  refine AL_nil ?_
  refine hK2 _ _ _ ?_
  refine AC_ret ?_
  refine ret_ok hdm (.tmp rfl rfl .nil) (.cons .d .nil) ?_
  (simp_all [endB]; done)
set_option maxHeartbeats 1000000 in
set_option maxRecDepth 4000 in
theorem c_quoted (t : ByteArray) (i : Nat) (hs : t.size ≤ 1099511627776) (hi : i < t.size) : PCall Tryz.prog 158 [.c (.string t), .c (.int .i64 ((i : Nat) : Int))] (· = [.c (.int .i64 ((quoM t i : Nat) : Int))]) := by
 refine PCall_of (n := 26) Tryz.func158 rfl rfl (Nat.le_of_ble_eq_true rfl) fun C hdm hT0 => ?_
 have hT := hT0
 refine AC_seq fun K1 hK1 => ?_
 refine AC_region ?_
 refine AL_ev (Ev_assign) rfl ?_
 refine AL_nil ?_
 refine hK1 _ _ _ ?_
 refine AC_seq fun K2 hK2 => ?_
 refine AC_seq fun K3 hK3 => ?_
 refine AC_region ?_
 refine AL_ev (Ev_move) rfl ?_
 refine AL_ev (Ev_add rfl rfl _ (wrap_id (by omega) (by omega))) rfl ?_
 refine AL_ev (Ev_assign) rfl ?_
 refine AL_nil ?_
 refine hK3 _ _ _ ?_
 refine AC_block ?_
 refine AC_loopS [0, 1] (Nat) (fun j => [(5, i64 ((j : Nat) : Int))]) (fun j => []) (fun st => t.size - st) (fun j => (i + 1 ≤ j ∧ j ≤ t.size ∧ quoM t i = quoL t i ((bts t).drop j) j)) (i + 1) ?_ ?_ ?_
 ·exact enterS [] rfl rfl BxTo_nil (SlTo_cons (by exact .rd .d) (SlTo_cons (by exact .rd .d) (SlTo_cons (by exact .rd .d) SlTo_nil)))
 ·exact ⟨Nat.le_refl _, by omega, rfl⟩
 rintro j ⟨hj0, hj1, hI⟩
 show AC _ _ _ _ _ (FS [0, 1] _ [(5, i64 ((j : Nat) : Int))]) []
 refine AC_seq fun K4 hK4 => ?_
 refine AC_seq fun K5 hK5 => ?_
 refine AC_region ?_
 refine AL_ev (Ev_move) rfl ?_
 refine AL_ev (Ev_move) rfl ?_
 refine AL_ev (Ev_len_str tstr9 rfl) rfl ?_
 refine AL_ev (Ev_lss rfl rfl) rfl ?_
 refine AL_nil ?_
 refine hK5 _ _ _ ?_
 refine AC_cond rfl (fun hc1 => ?_) (fun hc1 => ?_)
 ·have hlt : j < t.size := by have := of_decide_eq_true hc1; omega
  have hjbu : j < (bts t).length := by rw [bts_len]; omega
  refine Exists.elim (show ∃ v, (bts t)[j]? = some v from ⟨_, List.getElem?_eq_getElem hjbu⟩) fun u hu => ?_
  have hu2 := bts_get hu
  have hub := UInt8.toNat_lt u
  have hdr := drop_get hu
  refine AC_skip ?_
  refine hK4 _ _ _ ?_
  refine AC_seq fun K6 hK6 => ?_
  refine AC_block ?_
  refine AC_seq fun K7 hK7 => ?_
  refine AC_region ?_
  refine AL_ev (Ev_move) rfl ?_
  refine AL_ev (Ev_move) rfl ?_
  refine AL_ev (Ev_ix_str tstr9 rfl rfl (by omega) (by assumption)) rfl ?_
  refine AL_ev (Ev_eql rfl rfl) rfl ?_
  refine AL_nil ?_
  refine hK7 _ _ _ ?_
  refine AC_cond rfl (fun hc2 => ?_) (fun hc2 => ?_)
  ·refine AC_seq fun K8 hK8 => ?_
   refine AC_seq fun K9 hK9 => ?_
   refine AC_region ?_
   refine AL_ev (Ev_move) rfl ?_
   refine AL_ev (Ev_move) rfl ?_
   refine AL_ev (Ev_add rfl rfl _ (wrap_id (by omega) (by omega))) rfl ?_
   refine AL_ev (Ev_move) rfl ?_
   refine AL_ev (Ev_slice_str tstr9 rfl rfl rfl (by omega) (by omega) (by omega)) rfl ?_
   refine AL_fcall0 hT rfl cl147 (c_l03Name (t.extract (i + 1) j) (by simp; omega)) rfl rfl ?_
   refine AL_nil ?_
   refine hK9 _ _ _ ?_
   refine AC_cond rfl (fun hc3 => ?_) (fun hc3 => ?_)
   ·refine AC_seq fun K10 hK10 => ?_
    refine AC_region ?_
    refine AL_ev (Ev_move) rfl ?_
    refine AL_ev (Ev_add rfl rfl _ (wrap_id (by omega) (by omega))) rfl ?_
    refine AL_ev (Ev_assign) rfl ?_
    refine AL_nil ?_
    refine hK10 _ _ _ ?_
    refine AC_ret ?_
    refine ret_ok hdm (.tmp rfl rfl .nil) (.cons .d .nil) ?_
    rw [hI, hdr]; simp_all [quoL]
   ·refine AC_skip ?_
    refine hK8 _ _ _ ?_
    refine AC_seq fun K11 hK11 => ?_
    refine AC_region ?_
    refine AL_ev (Ev_assign) rfl ?_
    refine AL_nil ?_
    refine hK11 _ _ _ ?_
    refine AC_ret ?_
    refine ret_ok hdm (.tmp rfl rfl .nil) (.cons .d .nil) ?_
    rw [hI, hdr]; simp_all [quoL]
  ·refine AC_skip ?_
   refine hK6 _ _ _ ?_
   refine AC_region ?_
   refine AL_ev (Ev_move) rfl ?_
   refine AL_ev (Ev_add rfl rfl _ (wrap_id (by omega) (by omega))) rfl ?_
   refine AL_ev (Ev_assign) rfl ?_
   refine AL_nil ?_
   refine closeS (j + 1) [] rfl rfl (by show t.size - (j + 1) < t.size - j; omega) ?_ BxTo_nil (SlTo_cons (by exact .rd .d) (SlTo_cons (by exact .rd .d) (SlTo_cons (by exact .rd .d) SlTo_nil)))
   exact ⟨by omega, by omega, by rw [hI, hdr]; simp_all [quoL]⟩
 ·have hge : t.size ≤ j := by have := of_decide_eq_false hc1; omega
  have hI2 : quoM t i = 0 := by rw [hI, List.drop_eq_nil_of_le (by simp; omega)]; rfl
  refine AC_exit ?_
  refine hK2 _ _ _ ?_
  refine AC_seq fun K12 hK12 => ?_
  refine AC_region ?_
  refine AL_ev (Ev_assign) rfl ?_
  refine AL_nil ?_
  refine hK12 _ _ _ ?_
  refine AC_ret ?_
  refine ret_ok hdm (.tmp rfl rfl .nil) (.cons .d .nil) ?_
  rw [hI2]; rfl
end Go.Proofs.YtjgliechbnommaaGreatDoor
