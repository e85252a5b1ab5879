/- Contracts of functions. -/
import Derived.Test.YtjhdkjacfclipaaMt
import Derived.Test.YtjhdkjacfclipaaOk
import Derived.Test.YtjhdkjacfclipaaWn
import Derived.Test.YtjhdkjacfclipaaEng27
import Derived.Test.YtjhdkjacfclipaaLc
import Derived.Test.YtjhdkjacfclipaaOw
import Derived.Test.YtjhdkjacfclipaaGd
import Derived.Test.YtjhdkjacfclipaaProg
import Derived.KernelRfl
import Derived.Test.YtjhdkjacfclipaaCA
import Derived.Test.YtjhdkjacfclipaaCB
import Derived.Test.YtjhdkjacfclipaaCS
import Derived.Test.YtjhdkjacfclipaaCV
import Derived.Test.YtjhdkjacfclipaaCY
set_option linter.unusedVariables false
set_option linter.unusedSimpArgs false
namespace Go.Proofs.Ytjhdkjacfclipaa
open Go.Eng

theorem cl23 : Callable Try.prog 23 := Callable_of Try.func23 (by kernel_rfl) (by kernel_rfl)
theorem cl24 : Callable Try.prog 24 := Callable_of Try.func24 (by kernel_rfl) (by kernel_rfl)
theorem cl57 : Callable Try.prog 57 := Callable_of Try.func57 (by kernel_rfl) (by kernel_rfl)
theorem cl58 : Callable Try.prog 58 := Callable_of Try.func58 (by kernel_rfl) (by kernel_rfl)
theorem cl59 : Callable Try.prog 59 := Callable_of Try.func59 (by kernel_rfl) (by kernel_rfl)
theorem cl63 : Callable Try.prog 63 := Callable_of Try.func63 (by kernel_rfl) (by kernel_rfl)
theorem cl64 : Callable Try.prog 64 := Callable_of Try.func64 (by kernel_rfl) (by kernel_rfl)
theorem cl85 : Callable Try.prog 85 := Callable_of Try.func85 (by kernel_rfl) (by kernel_rfl)
theorem cl86 : Callable Try.prog 86 := Callable_of Try.func86 (by kernel_rfl) (by kernel_rfl)
theorem cl87 : Callable Try.prog 87 := Callable_of Try.func87 (by kernel_rfl) (by kernel_rfl)
theorem cl90 : Callable Try.prog 90 := Callable_of Try.func90 (by kernel_rfl) (by kernel_rfl)

set_option maxHeartbeats 1000000 in
set_option maxRecDepth 4000 in
theorem c_isStruct (k : Int) (s : ByteArray) (m : Int) (ks : List T) (s2 : ByteArray) (n : Nat) : PCall Try.prog 86 [inj (.mk k s m ks), .c (.string s2), .c (.int .i64 (n : Int))] (· = [.c (.bool (decide (k = 4) && decide (s = s2) && decide (ks.length = n)))]) := by
  refine PCall_of (n := 23) Try.func86 rfl rfl (Nat.le_of_ble_eq_true rfl) fun C hdm hT0 => ?_
  have hT := hT0
  refine AC_seq fun K1 hK1 => ?_
  refine AC_region ?_
  refine AL_box (Lay.st [.one, .one, .one, .one]) (nf rfl) rfl (by first | rfl | simp [Lay.len, Lay.lens]) _ rfl rfl ?_
  refine AL_ev (Ev_assign) rfl ?_
  refine AL_nil ?_
  refine hK1 _ _ _ ?_
  refine AC_seq fun K2 hK2 => ?_
  refine AC_region ?_
  first | refine AL_ev (Ev_fa_ptr rfl fa35_0 rfl rfl) rfl ?_ | refine AL_ev (Ev_fa_rp rfl fa35_0 rfl rfl) rfl ?_
  first | refine AL_ev (Ev_load_ptr rfl rfl rfl rfl rfl rfl ts3 ta3 rfl (fun _ => rfl)) rfl ?_ | refine AL_ev (Ev_load_rp rfl rfl rfl ts3 ta3 rfl (fun _ => rfl)) rfl ?_
  refine AL_ev (Ev_eql rfl rfl) rfl ?_
  refine AL_ev (Ev_move) rfl ?_
  refine AL_bool 10 rfl (fun hg1 => ?_) (fun hg1 => ?_)
  · skip
    refine AL_guard_t rfl rfl rfl ?_
    first | refine AL_ev (Ev_fa_ptr rfl fa35_1 rfl rfl) rfl ?_ | refine AL_ev (Ev_fa_rp rfl fa35_1 rfl rfl) rfl ?_
    refine AL_guard_t rfl rfl rfl ?_
    first | refine AL_ev (Ev_load_ptr rfl rfl rfl rfl rfl rfl ts9 ta9 rfl (fun _ => rfl)) rfl ?_ | refine AL_ev (Ev_load_rp rfl rfl rfl ts9 ta9 rfl (fun _ => rfl)) rfl ?_
    refine AL_guard_t rfl rfl rfl ?_
    refine AL_ev (Ev_move) rfl ?_
    refine AL_guard_t rfl rfl rfl ?_
    refine AL_ev (Ev_seql rfl rfl) rfl ?_
    refine AL_ev (Ev_pick rfl) rfl ?_
    refine AL_ev (Ev_move) rfl ?_
    refine AL_bool 16 rfl (fun hg2 => ?_) (fun hg2 => ?_)
    · skip
      refine AL_guard_t rfl rfl rfl ?_
      first | refine AL_ev (Ev_fa_ptr rfl fa35_3 rfl rfl) rfl ?_ | refine AL_ev (Ev_fa_rp rfl fa35_3 rfl rfl) rfl ?_
      refine AL_guard_t rfl rfl rfl ?_
      first | refine AL_ev (Ev_load_ptr rfl rfl rfl rfl rfl rfl ts24 ta24 rfl (fun _ => rfl)) rfl ?_ | refine AL_ev (Ev_load_rp rfl rfl rfl ts24 ta24 rfl (fun _ => rfl)) rfl ?_
      refine AL_guard_t rfl rfl rfl ?_
      first | refine AL_lim (x := (Operand.tmp 18)) rfl fun hl1 => ?_ | refine AL_limB (x := (Operand.tmp 18)) rfl rfl (by first | rfl | (simp; done) | (simp; omega)) fun hl1 => ?_ | have hl1 := True.intro
      try simp only [injs_length, ints_length, strs_length, injCs_length, u8s_length, List.length_map] at hl1
      first | refine AL_ev (Ev_len_injs te24 rfl) rfl ?_ | refine AL_ev (Ev_len_sl te24 rfl) rfl ?_ | refine AL_ev (Ev_len_ref te24 rfl) rfl ?_ | refine AL_ev (Ev_len_nil te24 rfl) rfl ?_ | refine AL_ev (Ev_len_c te24 rfl) rfl ?_
      refine AL_guard_t rfl rfl rfl ?_
      refine AL_ev (Ev_move) rfl ?_
      refine AL_guard_t rfl rfl rfl ?_
      refine AL_ev (Ev_eql rfl rfl) rfl ?_
      refine AL_ev (Ev_pick rfl) rfl ?_
      refine AL_ev (Ev_assign) rfl ?_
      refine AL_nil ?_
      refine hK2 _ _ _ ?_
      refine AC_ret ?_
      refine ret_ok hdm (.tmp rfl rfl .nil) (.cons .d .nil) ?_
      have e9 : decide ((ks.length : Int) = (n : Int)) = decide (ks.length = n) := by by_cases h : ks.length = n <;> simp [h]; omega
      simp_all
    · skip
      refine AL_guard_f rfl rfl rfl rfl ?_
      refine AL_guard_f rfl rfl rfl rfl ?_
      refine AL_guard_f rfl rfl rfl rfl ?_
      refine AL_guard_f rfl rfl rfl rfl ?_
      refine AL_guard_f rfl rfl rfl rfl ?_
      refine AL_ev (Ev_pick rfl) rfl ?_
      refine AL_ev (Ev_assign) rfl ?_
      refine AL_nil ?_
      refine hK2 _ _ _ ?_
      refine AC_ret ?_
      refine ret_ok hdm (.tmp rfl rfl .nil) (.cons .d .nil) ?_
      have e9 : decide ((ks.length : Int) = (n : Int)) = decide (ks.length = n) := by by_cases h : ks.length = n <;> simp [h]; omega
      simp_all
  · skip
    refine AL_guard_f rfl rfl rfl rfl ?_
    refine AL_guard_f rfl rfl rfl rfl ?_
    refine AL_guard_f rfl rfl rfl rfl ?_
    refine AL_guard_f rfl rfl rfl rfl ?_
    refine AL_ev (Ev_pick rfl) rfl ?_
    refine AL_ev (Ev_move) rfl ?_
    refine AL_guard_f rfl rfl rfl rfl ?_
    refine AL_guard_f rfl rfl rfl rfl ?_
    refine AL_guard_f rfl rfl rfl rfl ?_
    refine AL_guard_f rfl rfl rfl rfl ?_
    refine AL_guard_f rfl rfl rfl rfl ?_
    refine AL_ev (Ev_pick rfl) rfl ?_
    refine AL_ev (Ev_assign) rfl ?_
    refine AL_nil ?_
    refine hK2 _ _ _ ?_
    refine AC_ret ?_
    refine ret_ok hdm (.tmp rfl rfl .nil) (.cons .d .nil) ?_
    have e9 : decide ((ks.length : Int) = (n : Int)) = decide (ks.length = n) := by by_cases h : ks.length = n <;> simp [h]; omega
    simp_all

set_option maxHeartbeats 1000000 in
set_option maxRecDepth 4000 in
theorem c_l03Is (k : Int) (s : ByteArray) (m : Int) (ks : List T) (s2 : ByteArray) (n : Nat) : PCall Try.prog 87 [inj (.mk k s m ks), .c (.string s2), .c (.int .i64 (n : Int))] (· = [.c (.bool (decide (k = 4) && decide (s = s2) && decide (ks.length = n)))]) := by
  refine PCall_of (n := 23) Try.func87 rfl rfl (Nat.le_of_ble_eq_true rfl) fun C hdm hT0 => ?_
  have hT := hT0
  refine AC_seq fun K1 hK1 => ?_
  refine AC_region ?_
  refine AL_box (Lay.st [.one, .one, .one, .one]) (nf rfl) rfl (by first | rfl | simp [Lay.len, Lay.lens]) _ rfl rfl ?_
  refine AL_ev (Ev_assign) rfl ?_
  refine AL_nil ?_
  refine hK1 _ _ _ ?_
  refine AC_seq fun K2 hK2 => ?_
  refine AC_region ?_
  first | refine AL_ev (Ev_fa_ptr rfl fa35_0 rfl rfl) rfl ?_ | refine AL_ev (Ev_fa_rp rfl fa35_0 rfl rfl) rfl ?_
  first | refine AL_ev (Ev_load_ptr rfl rfl rfl rfl rfl rfl ts3 ta3 rfl (fun _ => rfl)) rfl ?_ | refine AL_ev (Ev_load_rp rfl rfl rfl ts3 ta3 rfl (fun _ => rfl)) rfl ?_
  refine AL_ev (Ev_eql rfl rfl) rfl ?_
  refine AL_ev (Ev_move) rfl ?_
  refine AL_bool 10 rfl (fun hg1 => ?_) (fun hg1 => ?_)
  · skip
    refine AL_guard_t rfl rfl rfl ?_
    first | refine AL_ev (Ev_fa_ptr rfl fa35_1 rfl rfl) rfl ?_ | refine AL_ev (Ev_fa_rp rfl fa35_1 rfl rfl) rfl ?_
    refine AL_guard_t rfl rfl rfl ?_
    first | refine AL_ev (Ev_load_ptr rfl rfl rfl rfl rfl rfl ts9 ta9 rfl (fun _ => rfl)) rfl ?_ | refine AL_ev (Ev_load_rp rfl rfl rfl ts9 ta9 rfl (fun _ => rfl)) rfl ?_
    refine AL_guard_t rfl rfl rfl ?_
    refine AL_ev (Ev_move) rfl ?_
    refine AL_guard_t rfl rfl rfl ?_
    refine AL_ev (Ev_seql rfl rfl) rfl ?_
    refine AL_ev (Ev_pick rfl) rfl ?_
    refine AL_ev (Ev_move) rfl ?_
    refine AL_bool 16 rfl (fun hg2 => ?_) (fun hg2 => ?_)
    · skip
      refine AL_guard_t rfl rfl rfl ?_
      first | refine AL_ev (Ev_fa_ptr rfl fa35_3 rfl rfl) rfl ?_ | refine AL_ev (Ev_fa_rp rfl fa35_3 rfl rfl) rfl ?_
      refine AL_guard_t rfl rfl rfl ?_
      first | refine AL_ev (Ev_load_ptr rfl rfl rfl rfl rfl rfl ts24 ta24 rfl (fun _ => rfl)) rfl ?_ | refine AL_ev (Ev_load_rp rfl rfl rfl ts24 ta24 rfl (fun _ => rfl)) rfl ?_
      refine AL_guard_t rfl rfl rfl ?_
      first | refine AL_lim (x := (Operand.tmp 18)) rfl fun hl1 => ?_ | refine AL_limB (x := (Operand.tmp 18)) rfl rfl (by first | rfl | (simp; done) | (simp; omega)) fun hl1 => ?_ | have hl1 := True.intro
      try simp only [injs_length, ints_length, strs_length, injCs_length, u8s_length, List.length_map] at hl1
      first | refine AL_ev (Ev_len_injs te24 rfl) rfl ?_ | refine AL_ev (Ev_len_sl te24 rfl) rfl ?_ | refine AL_ev (Ev_len_ref te24 rfl) rfl ?_ | refine AL_ev (Ev_len_nil te24 rfl) rfl ?_ | refine AL_ev (Ev_len_c te24 rfl) rfl ?_
      refine AL_guard_t rfl rfl rfl ?_
      refine AL_ev (Ev_move) rfl ?_
      refine AL_guard_t rfl rfl rfl ?_
      refine AL_ev (Ev_eql rfl rfl) rfl ?_
      refine AL_ev (Ev_pick rfl) rfl ?_
      refine AL_ev (Ev_assign) rfl ?_
      refine AL_nil ?_
      refine hK2 _ _ _ ?_
      refine AC_ret ?_
      refine ret_ok hdm (.tmp rfl rfl .nil) (.cons .d .nil) ?_
      have e9 : decide ((ks.length : Int) = (n : Int)) = decide (ks.length = n) := by by_cases h : ks.length = n <;> simp [h]; omega
      simp_all
    · skip
      refine AL_guard_f rfl rfl rfl rfl ?_
      refine AL_guard_f rfl rfl rfl rfl ?_
      refine AL_guard_f rfl rfl rfl rfl ?_
      refine AL_guard_f rfl rfl rfl rfl ?_
      refine AL_guard_f rfl rfl rfl rfl ?_
      refine AL_ev (Ev_pick rfl) rfl ?_
      refine AL_ev (Ev_assign) rfl ?_
      refine AL_nil ?_
      refine hK2 _ _ _ ?_
      refine AC_ret ?_
      refine ret_ok hdm (.tmp rfl rfl .nil) (.cons .d .nil) ?_
      have e9 : decide ((ks.length : Int) = (n : Int)) = decide (ks.length = n) := by by_cases h : ks.length = n <;> simp [h]; omega
      simp_all
  · skip
    refine AL_guard_f rfl rfl rfl rfl ?_
    refine AL_guard_f rfl rfl rfl rfl ?_
    refine AL_guard_f rfl rfl rfl rfl ?_
    refine AL_guard_f rfl rfl rfl rfl ?_
    refine AL_ev (Ev_pick rfl) rfl ?_
    refine AL_ev (Ev_move) rfl ?_
    refine AL_guard_f rfl rfl rfl rfl ?_
    refine AL_guard_f rfl rfl rfl rfl ?_
    refine AL_guard_f rfl rfl rfl rfl ?_
    refine AL_guard_f rfl rfl rfl rfl ?_
    refine AL_guard_f rfl rfl rfl rfl ?_
    refine AL_ev (Ev_pick rfl) rfl ?_
    refine AL_ev (Ev_assign) rfl ?_
    refine AL_nil ?_
    refine hK2 _ _ _ ?_
    refine AC_ret ?_
    refine ret_ok hdm (.tmp rfl rfl .nil) (.cons .d .nil) ?_
    have e9 : decide ((ks.length : Int) = (n : Int)) = decide (ks.length = n) := by by_cases h : ks.length = n <;> simp [h]; omega
    simp_all

set_option maxHeartbeats 1000000 in
set_option maxRecDepth 4000 in
theorem c_isPair (t : T) : PCall Try.prog 57 [inj t] (· = [.c (.bool (pairB t))]) := by
  obtain ⟨k, s, m, ks⟩ := t
  refine PCall_of (n := 5) Try.func57 rfl rfl (Nat.le_of_ble_eq_true rfl) fun C hdm hT0 => ?_
  have hT := hT0
  refine AC_seq fun K1 hK1 => ?_
  refine AC_region ?_
  refine AL_box (Lay.st [.one, .one, .one, .one]) (nf rfl) rfl (by first | rfl | simp [Lay.len, Lay.lens]) _ rfl rfl ?_
  refine AL_ev (Ev_assign) rfl ?_
  refine AL_nil ?_
  refine hK1 _ _ _ ?_
  refine AC_seq fun K2 hK2 => ?_
  refine AC_region ?_
  first | refine AL_ev (Ev_load_ptr rfl rfl rfl rfl rfl rfl ts35 ta35 (by first | rfl | assumption | simp) (by intro h; cases h)) rfl ?_ | refine AL_ev (Ev_load_rp rfl rfl rfl ts35 ta35 (by first | rfl | assumption | simp) (by intro h; cases h)) rfl ?_
  refine AL_fcall0 hT rfl cl86 (c_isStruct k s m ks nmDot 2) rfl rfl ?_
  refine AL_ev (Ev_assign) rfl ?_
  refine AL_nil ?_
  refine hK2 _ _ _ ?_
  refine AC_ret ?_
  exact ret_ok hdm (.tmp rfl rfl .nil) (.cons .d .nil) rfl

set_option maxHeartbeats 1000000 in
set_option maxRecDepth 4000 in
theorem c_isAtom (k : Int) (s : ByteArray) (m : Int) (ks : List T) (s2 : ByteArray) : PCall Try.prog 58 [inj (.mk k s m ks), .c (.string s2)] (· = [.c (.bool (decide (k = 2) && decide (s = s2)))]) := by
  refine PCall_of (n := 14) Try.func58 rfl rfl (Nat.le_of_ble_eq_true rfl) fun C hdm hT0 => ?_
  have hT := hT0
  refine AC_seq fun K1 hK1 => ?_
  refine AC_region ?_
  refine AL_box (Lay.st [.one, .one, .one, .one]) (nf rfl) rfl (by first | rfl | simp [Lay.len, Lay.lens]) _ rfl rfl ?_
  refine AL_ev (Ev_assign) rfl ?_
  refine AL_nil ?_
  refine hK1 _ _ _ ?_
  refine AC_seq fun K2 hK2 => ?_
  refine AC_region ?_
  first | refine AL_ev (Ev_fa_ptr rfl fa35_0 rfl rfl) rfl ?_ | refine AL_ev (Ev_fa_rp rfl fa35_0 rfl rfl) rfl ?_
  first | refine AL_ev (Ev_load_ptr rfl rfl rfl rfl rfl rfl ts3 ta3 rfl (fun _ => rfl)) rfl ?_ | refine AL_ev (Ev_load_rp rfl rfl rfl ts3 ta3 rfl (fun _ => rfl)) rfl ?_
  refine AL_ev (Ev_eql rfl rfl) rfl ?_
  refine AL_ev (Ev_move) rfl ?_
  refine AL_bool 8 rfl (fun hg1 => ?_) (fun hg1 => ?_)
  · skip
    refine AL_guard_t rfl rfl rfl ?_
    first | refine AL_ev (Ev_fa_ptr rfl fa35_1 rfl rfl) rfl ?_ | refine AL_ev (Ev_fa_rp rfl fa35_1 rfl rfl) rfl ?_
    refine AL_guard_t rfl rfl rfl ?_
    first | refine AL_ev (Ev_load_ptr rfl rfl rfl rfl rfl rfl ts9 ta9 rfl (fun _ => rfl)) rfl ?_ | refine AL_ev (Ev_load_rp rfl rfl rfl ts9 ta9 rfl (fun _ => rfl)) rfl ?_
    refine AL_guard_t rfl rfl rfl ?_
    refine AL_ev (Ev_move) rfl ?_
    refine AL_guard_t rfl rfl rfl ?_
    refine AL_ev (Ev_seql rfl rfl) rfl ?_
    refine AL_ev (Ev_pick rfl) rfl ?_
    refine AL_ev (Ev_assign) rfl ?_
    refine AL_nil ?_
    refine hK2 _ _ _ ?_
    refine AC_ret ?_
    refine ret_ok hdm (.tmp rfl rfl .nil) (.cons .d .nil) ?_
    simp_all
  · skip
    refine AL_guard_f rfl rfl rfl rfl ?_
    refine AL_guard_f rfl rfl rfl rfl ?_
    refine AL_guard_f rfl rfl rfl rfl ?_
    refine AL_guard_f rfl rfl rfl rfl ?_
    refine AL_ev (Ev_pick rfl) rfl ?_
    refine AL_ev (Ev_assign) rfl ?_
    refine AL_nil ?_
    refine hK2 _ _ _ ?_
    refine AC_ret ?_
    refine ret_ok hdm (.tmp rfl rfl .nil) (.cons .d .nil) ?_
    simp_all

set_option maxHeartbeats 1000000 in
set_option maxRecDepth 4000 in
theorem c_atom (s : ByteArray) : PCall Try.prog 67 [.c (.string s)] (· = [inj (.mk 2 s 0 [])]) := by
  refine PCall_of (n := 5) Try.func67 rfl rfl (Nat.le_of_ble_eq_true rfl) fun C hdm hT0 => ?_
  have hT := hT0
  refine AC_seq fun K1 hK1 => ?_
  refine AC_region ?_
  refine AL_alloc zo35 _ rfl rfl ?_
  refine AL_nil ?_
  refine hK1 _ _ _ ?_
  refine AC_seq fun K2 hK2 => ?_
  refine AC_region ?_
  refine AL_ev (Ev_move) rfl ?_
  refine AL_ev (Ev_build (fs := [.one, .one, .one, .one]) (zs := [.c (.int .i64 0), .c (.string ⟨#[]⟩), .c (.int .i64 0), .c (.slice none 0 0)]) tz35 rfl tpl35 (.cons rfl rfl (by first | rfl | simp) (.cons rfl rfl (by first | rfl | simp) .nil))) rfl ?_
  first | refine AL_store rfl (nf rfl) rfl rfl rfl rfl rfl rfl (by first | rfl | assumption | simp [Lay.len, Lay.lens]) ts35 rfl rfl ?_ | refine AL_store rfl (nf rfl) rfl rfl rfl hes rfl rfl (by first | rfl | assumption | simp [Lay.len, Lay.lens]) ts35 rfl rfl ?_
  refine AL_nil ?_
  refine hK2 _ _ _ ?_
  refine AC_ret ?_
  exact ret_ok hdm (.cell rfl rfl rfl rfl rfl rfl ts35 ta35 rfl (by intro h; cases h) .nil) (.cons (.agg (.cons .d (.cons .d (.cons .d (.cons .nil .nil))))) .nil) rfl

set_option maxHeartbeats 1000000 in
set_option maxRecDepth 4000 in
theorem c_listOf (ks : List T) (e : T) : PCall Try.prog 63 [.sl LT (injs ks), inj e] (· = [inj (mkListE e ks)]) := by
  refine PCall_of (n := 22) Try.func63 rfl rfl (Nat.le_of_ble_eq_true rfl) fun C hdm hT0 => ?_
  have hT := hT0
  refine AC_seq fun K1 hK1 => ?_
  refine AC_region ?_
  refine AL_box (Lay.st [.one, .one, .one, .one]) (nf rfl) rfl (by first | rfl | simp [Lay.len, Lay.lens]) _ rfl rfl ?_
  refine AL_alloc zo35 _ rfl rfl ?_
  refine AL_nil ?_
  refine hK1 _ _ _ ?_
  refine AC_seq fun K2 hK2 => ?_
  refine AC_seq fun K3 hK3 => ?_
  refine AC_region ?_
  refine AL_ev (Ev_move) rfl ?_
  first | refine AL_lim (x := (Operand.tmp 6)) rfl fun hl1 => ?_ | refine AL_limB (x := (Operand.tmp 6)) rfl rfl (by first | rfl | (simp; done) | (simp; omega)) fun hl1 => ?_ | have hl1 := True.intro
  try simp only [injs_length, ints_length, strs_length, injCs_length, u8s_length, List.length_map] at hl1
  first | refine AL_ev (Ev_len_injs te24 rfl) rfl ?_ | refine AL_ev (Ev_len_sl te24 rfl) rfl ?_ | refine AL_ev (Ev_len_ref te24 rfl) rfl ?_ | refine AL_ev (Ev_len_nil te24 rfl) rfl ?_ | refine AL_ev (Ev_len_c te24 rfl) rfl ?_
  first | refine AL_ev (Ev_sub rfl rfl _ (wrap_id (by first | omega | (simp; omega)) (by first | omega | (simp; omega)))) rfl ?_ | refine AL_ev (Ev_sub rfl rfl _ rfl) rfl ?_
  refine AL_ev (Ev_assign) rfl ?_
  refine AL_nil ?_
  refine hK3 _ _ _ ?_
  refine AC_block ?_
  refine AC_loopS [0, 3, 4] (Nat) (fun m => [(5, i64 ((m : Int) - 1))]) (fun m => [some ⟨35, LT, [.d (inj (mkListE e (ks.drop m)))]⟩, some ⟨35, LT, [.d zT]⟩]) (fun m => m) (fun m => m ≤ ks.length) (ks.length) ?_ ?_ ?_
  · skip
    exact enterS [some 0, some 1] rfl rfl (BxTo_some rfl rfl rfl rfl (VwL_one (by rw [List.drop_length]; rfl)) (BxTo_some rfl rfl rfl rfl (.cons (.rd .d) .nil) BxTo_nil)) (SlTo_cons (by first | exact .rd .d | exact .ptr rfl | exact .ref rfl | exact .any | exact Vw_int (by omega)) (SlTo_cons (by first | exact .rd .d | exact .ptr rfl | exact .ref rfl | exact .any | exact Vw_int (by omega)) (SlTo_cons (by first | exact .rd .d | exact .ptr rfl | exact .ref rfl | exact .any | exact Vw_int (by omega)) (SlTo_cons (by first | exact .rd .d | exact .ptr rfl | exact .ref rfl | exact .any | exact Vw_int (by omega)) SlTo_nil))))
  · skip
    exact Nat.le_refl _
  intro m1 hm1
  refine AC_seq fun K4 hK4 => ?_
  refine AC_seq fun K5 hK5 => ?_
  refine AC_region ?_
  refine AL_ev (Ev_move) rfl ?_
  refine AL_ev (Ev_geq rfl rfl) rfl ?_
  refine AL_nil ?_
  refine hK5 _ _ _ ?_
  refine AC_cond rfl (fun hc1 => ?_) (fun hc1 => ?_)
  · skip
    have h1 : 0 < m1 := by have := of_decide_eq_true hc1; omega
    obtain ⟨m, rfl⟩ : ∃ m, m1 = m + 1 := ⟨m1 - 1, by omega⟩
    obtain ⟨u, hu⟩ : ∃ u, ks[m]? = some u := ⟨_, List.getElem?_eq_getElem (by omega)⟩
    have hu2 : (injs ks)[(((m + 1 : Nat) : Int) - 1).toNat]? = some (inj u) := by rw [show (((m + 1 : Nat) : Int) - 1).toNat = m by omega]; exact injs_get hu
    refine AC_skip ?_
    refine hK4 _ _ _ ?_
    refine AC_seq fun K6 hK6 => ?_
    refine AC_block ?_
    refine AC_draw hT follows [0, 1, 2, 3, 4, 5, 6, 7, 8] (by kernel_rfl) ?_
    refine DT_ev rfl (EA_move) rfl ?_
    refine DT_ev rfl (EA_move) rfl ?_
    first | refine DT_ev rfl (EA_ix_sl rfl rfl te24 ts35 (by omega) (by assumption)) rfl ?_ | refine DT_ev rfl (EA_ix_ref rfl rfl te24 ts35 (by omega) (by first | omega | (simp; omega))) rfl ?_
    first | refine DT_ev rfl (EA_load_ptr rfl rfl rfl rfl rfl rfl ts35 ta35 (by first | rfl | assumption | simp) (by intro h; cases h)) rfl ?_ | refine DT_ev rfl (EA_load_rp rfl rfl rfl ts35 ta35 (by first | rfl | assumption | simp) (by intro h; cases h)) rfl ?_
    refine DT_fcall0 rfl rfl cl41 (c_copyTerm u) rfl rfl ?_
    first | refine DT_ev rfl (EA_load_ptr rfl rfl rfl rfl rfl rfl ts35 ta35 (by first | rfl | assumption | simp) (by intro h; cases h)) rfl ?_ | refine DT_ev rfl (EA_load_rp rfl rfl rfl ts35 ta35 (by first | rfl | assumption | simp) (by intro h; cases h)) rfl ?_
    refine DT_bD (Lay.st [.one, .one, .one, .one]) rfl rfl te24 ts35 tz35 rfl rfl (by decide) (by decide) (by first | rfl | simp [lenDs, goodVs, goodV, V.known, Lay.len, Lay.lens]) rfl ?_
    refine DT_fcall0 rfl rfl cl90 (c_structure nmDot [u, mkListE e (ks.drop (m + 1))]) rfl rfl ?_
    first | refine DT_store rfl rfl (nf rfl) rfl rfl rfl rfl rfl rfl (by first | rfl | assumption | simp [Lay.len, Lay.lens]) ts35 rfl rfl ?_ | refine DT_store rfl rfl (nf rfl) rfl rfl rfl hes rfl rfl (by first | rfl | assumption | simp [Lay.len, Lay.lens]) ts35 rfl rfl ?_
    refine DTi.nil ?_
    refine hK6 _ _ _ ?_
    refine AC_region ?_
    refine AL_ev (Ev_move) rfl ?_
    first | refine AL_ev (Ev_sub rfl rfl _ (wrap_id (by first | omega | (simp; omega)) (by first | omega | (simp; omega)))) rfl ?_ | refine AL_ev (Ev_sub rfl rfl _ rfl) rfl ?_
    refine AL_ev (Ev_assign) rfl ?_
    refine AL_nil ?_
    refine closeS m [some 0, some 1] rfl rfl (by show m < m + 1; omega) (by show m ≤ ks.length; omega) (BxTo_some rfl rfl rfl rfl (VwL_one (by rw [mkListE_drop hu])) (BxTo_some rfl rfl rfl rfl (.cons (.rd .d) .nil) BxTo_nil)) (SlTo_cons (Vw_int (by omega)) (SlTo_cons (by first | exact .rd .d | exact .ptr rfl | exact .ref rfl | exact .any | exact Vw_int (by omega)) (SlTo_cons (by first | exact .rd .d | exact .ptr rfl | exact .ref rfl | exact .any | exact Vw_int (by omega)) (SlTo_cons (by first | exact .rd .d | exact .ptr rfl | exact .ref rfl | exact .any | exact Vw_int (by omega)) SlTo_nil))))
  · skip
    refine AC_exit ?_
    refine hK2 _ _ _ ?_
    refine AC_seq fun K7 hK7 => ?_
    refine AC_region ?_
    first | refine AL_ev (Ev_load_ptr rfl rfl rfl rfl rfl rfl ts35 ta35 (by first | rfl | assumption | simp) (by intro h; cases h)) rfl ?_ | refine AL_ev (Ev_load_rp rfl rfl rfl ts35 ta35 (by first | rfl | assumption | simp) (by intro h; cases h)) rfl ?_
    first | refine AL_store rfl (nf rfl) rfl rfl rfl rfl rfl rfl (by first | rfl | assumption | simp [Lay.len, Lay.lens]) ts35 rfl rfl ?_ | refine AL_store rfl (nf rfl) rfl rfl rfl hes rfl rfl (by first | rfl | assumption | simp [Lay.len, Lay.lens]) ts35 rfl rfl ?_
    refine AL_nil ?_
    refine hK7 _ _ _ ?_
    refine AC_ret ?_
    have h1 : m1 = 0 := by have := of_decide_eq_false hc1; omega
    subst h1
    exact ret_ok hdm (.cell rfl rfl rfl rfl rfl rfl ts35 ta35 (inj_isAgg _) (by intro h; cases h) .nil) (.cons .d .nil) rfl

set_option maxHeartbeats 2000000 in
set_option maxRecDepth 4000 in
theorem c_itemsOf (t : T) (xs : List T) (b : Bool) (h : Itm t xs b) (hb : bulk t ≤ 1099511627775) : LCall Try.prog 23 [inj t] 35 LT (injs xs) [.bool b] := by
  have hcn := h.bulk
  obtain ⟨r, e, hi, rfl, rfl⟩ := h
  have hsb := sz_bulk t
  refine LCall_of (n := 26) Try.func23 rfl rfl (Nat.le_of_ble_eq_true rfl) fun C hdm hT0 => ?_
  have hT := hT0
  refine AC_seq fun K1 hK1 => ?_
  refine AC_region ?_
  refine AL_box (Lay.st [.one, .one, .one, .one]) (nf rfl) rfl (by first | rfl | simp [Lay.len, Lay.lens]) _ rfl rfl ?_
  refine AL_ev (Ev_assign) rfl ?_
  refine AL_ev (Ev_assign) rfl ?_
  refine AL_nil ?_
  refine hK1 _ _ _ ?_
  refine AC_seq fun K2 hK2 => ?_
  refine AC_seq fun K3 hK3 => ?_
  refine AC_region ?_
  first | refine AL_ev (Ev_load_ptr rfl rfl rfl rfl rfl rfl ts35 ta35 (by first | rfl | assumption | simp) (by intro h; cases h)) rfl ?_ | refine AL_ev (Ev_load_rp rfl rfl rfl ts35 ta35 (by first | rfl | assumption | simp) (by intro h; cases h)) rfl ?_
  refine AL_fcall0 hT rfl cl40 (c_termOk t (by omega)) rfl rfl ?_
  refine AL_ev (Ev_not rfl) rfl ?_
  refine AL_nil ?_
  refine hK3 _ _ _ ?_
  refine AC_cond rfl (fun hc1 => ?_) (fun hc1 => ?_)
  · skip
    have hok : okT t = false := by simpa using hc1
    refine AC_seq fun K4 hK4 => ?_
    refine AC_region ?_
    refine AL_ev (Ev_assign) rfl ?_
    refine AL_ev (Ev_assign) rfl ?_
    refine AL_nil ?_
    refine hK4 _ _ _ ?_
    refine AC_ret ?_
    exact retl_nil [.bool false] hdm (.tmp rfl rfl (.tmp rfl rfl .nil)) (by rw [hok]; rfl) (by rw [hok]; rfl)
  · skip
    have hok : okT t = true := by simpa using hc1
    refine AC_skip ?_
    refine hK2 _ _ _ ?_
    refine AC_seq fun K5 hK5 => ?_
    refine AC_region ?_
    refine AL_ev (Ev_assign) rfl ?_
    refine AL_nil ?_
    refine hK5 _ _ _ ?_
    refine AC_seq fun K6 hK6 => ?_
    refine AC_block ?_
    refine AC_loopS [1] (T × List T) (fun q => [(4, .ref LT 1 0 q.2.length)]) (fun q => [some ⟨35, LT, [.d (inj q.1)]⟩, some ⟨35, LT, (injs q.2).map V.d⟩]) (fun q => sz q.1) (fun q => ∃ r2, Its q.1 r2 e ∧ r = q.2 ++ r2 ∧ bulk q.1 ≤ 1099511627775 ∧ q.2.length + sz q.1 ≤ sz t) ((t, [])) ?_ ?_ ?_
    · skip
      refine Wk.then (Wk_nil_slot 4 35 LT rfl 1 rfl ?_)
      exact enterS [some 0, some 1] rfl rfl (BxTo_some rfl rfl rfl rfl (.cons (.rd .d) .nil) (BxTo_some rfl rfl rfl rfl .nil BxTo_nil)) (SlTo_cons (Vw_refe rfl (by first | rfl | simp)) (SlTo_cons (by first | exact .rd .d | exact .ptr rfl | exact .ref rfl | exact .any | exact Vw_int (by omega)) SlTo_nil))
    · skip
      exact ⟨r, hi, rfl, hb, by simp⟩
    rintro ⟨cur, out⟩ ⟨r2, hi2, hr2, hbc, hos⟩
    simp only at hi2 hr2 hbc hos
    refine AC_seq fun K7 hK7 => ?_
    refine AC_seq fun K8 hK8 => ?_
    refine AC_region ?_
    first | refine AL_ev (Ev_load_ptr rfl rfl rfl rfl rfl rfl ts35 ta35 (by first | rfl | assumption | simp) (by intro h; cases h)) rfl ?_ | refine AL_ev (Ev_load_rp rfl rfl rfl ts35 ta35 (by first | rfl | assumption | simp) (by intro h; cases h)) rfl ?_
    refine AL_fcall0 hT rfl cl57 (c_isPair cur) rfl rfl ?_
    refine AL_nil ?_
    refine hK8 _ _ _ ?_
    refine AC_cond rfl (fun hc2 => ?_) (fun hc2 => ?_)
    · skip
      have hp2 : pairB cur = true := hc2
      obtain ⟨m, a, b2, rfl⟩ := pairB_mk hp2
      obtain ⟨r3, rfl, hi3⟩ := hi2.inv.2 m a b2 rfl
      have hu0 : (injs [a, b2])[(0 : Int).toNat]? = some (inj a) := rfl
      have hu1 : (injs [a, b2])[(1 : Int).toNat]? = some (inj b2) := rfl
      have hbb := bulk_mem hbc b2 (by simp)
      have hsz2 : sz b2 < sz (.mk 4 nmDot m [a, b2]) := by simp only [sz, szs]; omega
      refine AC_skip ?_
      refine hK7 _ _ _ ?_
      refine AC_seq fun K9 hK9 => ?_
      refine AC_block ?_
      refine AC_region ?_
      refine AL_ev (Ev_move) rfl ?_
      first | refine AL_ev (Ev_fa_ptr rfl fa35_3 rfl rfl) rfl ?_ | refine AL_ev (Ev_fa_rp rfl fa35_3 rfl rfl) rfl ?_
      first | refine AL_ev (Ev_load_ptr rfl rfl rfl rfl rfl rfl ts24 ta24 rfl (fun _ => rfl)) rfl ?_ | refine AL_ev (Ev_load_rp rfl rfl rfl ts24 ta24 rfl (fun _ => rfl)) rfl ?_
      first | refine AL_ev (Ev_ix_sl rfl rfl te24 ts35 (by omega) (by assumption)) rfl ?_ | refine AL_ev (Ev_ix_ref rfl rfl te24 ts35 (by omega) (by first | omega | (simp; omega))) rfl ?_
      first | refine AL_ev (Ev_load_ptr rfl rfl rfl rfl rfl rfl ts35 ta35 (by first | rfl | assumption | simp) (by intro h; cases h)) rfl ?_ | refine AL_ev (Ev_load_rp rfl rfl rfl ts35 ta35 (by first | rfl | assumption | simp) (by intro h; cases h)) rfl ?_
      refine AL_fcall0 hT rfl cl41 (c_copyTerm a) rfl rfl ?_
      first | refine AL_bD (Lay.st [.one, .one, .one, .one]) rfl te24 ts35 tz35 rfl rfl (by decide) (by decide) (by first | rfl | simp [lenDs, goodVs, goodV, V.known, Lay.len, Lay.lens]) rfl ?_ | refine AL_bV (Lay.st [.one, .one, .one, .one]) rfl te24 ts35 tz35 rfl rfl (by decide) (by decide) (by first | rfl | simp [lenDs, goodVs, goodV, V.known, Lay.len, Lay.lens]) _ rfl rfl ?_
      first | refine AL_append rfl rfl rfl te24 ts35 tz35 rfl tb35 (by decide) (by decide) rfl (by first | rfl | (simp; done) | (simp; omega)) (Src_sl rfl) (by simp only [lim]; first | omega | (simp; done) | (simp; omega)) _ rfl rfl ?_ | refine AL_append rfl rfl rfl te24 ts35 tz35 rfl tb35 (by decide) (by decide) rfl (by first | rfl | (simp; done) | (simp; omega)) (Src_ref rfl rfl rfl (by first | rfl | (simp; done) | (simp; omega))) (by simp only [lim]; first | omega | (simp; done) | (simp; omega)) _ rfl rfl ?_ | refine AL_append rfl rfl rfl te24 ts35 tz35 rfl tb35 (by decide) (by decide) rfl (by first | rfl | (simp; done) | (simp; omega)) (Src_nil rfl) (by simp only [lim]; first | omega | (simp; done) | (simp; omega)) _ rfl rfl ?_
      refine AL_ev (Ev_assign) rfl ?_
      refine AL_nil ?_
      refine hK9 _ _ _ ?_
      refine AC_region ?_
      first | refine AL_ev (Ev_fa_ptr rfl fa35_3 rfl rfl) rfl ?_ | refine AL_ev (Ev_fa_rp rfl fa35_3 rfl rfl) rfl ?_
      first | refine AL_ev (Ev_load_ptr rfl rfl rfl rfl rfl rfl ts24 ta24 rfl (fun _ => rfl)) rfl ?_ | refine AL_ev (Ev_load_rp rfl rfl rfl ts24 ta24 rfl (fun _ => rfl)) rfl ?_
      first | refine AL_ev (Ev_ix_sl rfl rfl te24 ts35 (by omega) (by assumption)) rfl ?_ | refine AL_ev (Ev_ix_ref rfl rfl te24 ts35 (by omega) (by first | omega | (simp; omega))) rfl ?_
      first | refine AL_ev (Ev_load_ptr rfl rfl rfl rfl rfl rfl ts35 ta35 (by first | rfl | assumption | simp) (by intro h; cases h)) rfl ?_ | refine AL_ev (Ev_load_rp rfl rfl rfl ts35 ta35 (by first | rfl | assumption | simp) (by intro h; cases h)) rfl ?_
      first | refine AL_store rfl (nf rfl) rfl rfl rfl rfl rfl rfl (by first | rfl | assumption | simp [Lay.len, Lay.lens]) ts35 rfl rfl ?_ | refine AL_store rfl (nf rfl) rfl rfl rfl hes rfl rfl (by first | rfl | assumption | simp [Lay.len, Lay.lens]) ts35 rfl rfl ?_
      refine AL_nil ?_
      refine closeS (b2, out ++ [a]) [some 0, some 2] rfl rfl (by show sz b2 < _; exact hsz2) ⟨r3, hi3, by rw [hr2]; simp, hbb, by simp only [List.length_append, List.length_singleton]; omega⟩ (BxTo_some rfl rfl rfl rfl (.cons (.rd .d) .nil) (BxTo_some rfl rfl rfl rfl (VwL_app (by simp [injs_map])) BxTo_nil)) (SlTo_cons (Vw_refe rfl (by first | rfl | simp)) (SlTo_cons (by first | exact .rd .d | exact .ptr rfl | exact .ref rfl | exact .any | exact Vw_int (by omega)) SlTo_nil))
    · skip
      have hp2 : pairB cur = false := hc2
      obtain ⟨hr0, he0⟩ := hi2.inv.1 hp2
      subst hr0
      have he0 := he0.symm
      subst he0
      rw [List.append_nil] at hr2
      subst hr2
      refine AC_exit ?_
      refine hK6 _ _ _ ?_
      refine AC_seq fun K10 hK10 => ?_
      refine AC_seq fun K11 hK11 => ?_
      refine AC_region ?_
      first | refine AL_ev (Ev_load_ptr rfl rfl rfl rfl rfl rfl ts35 ta35 (by first | rfl | assumption | simp) (by intro h; cases h)) rfl ?_ | refine AL_ev (Ev_load_rp rfl rfl rfl ts35 ta35 (by first | rfl | assumption | simp) (by intro h; cases h)) rfl ?_
      refine AL_fcall0 hT rfl cl58 ((show PCall Try.prog 58 [inj cur, .c (.string nmNil)] (· = [.c (.bool (nilB cur))]) from by obtain ⟨k, s, m, ks⟩ := cur; exact c_isAtom k s m ks nmNil)) rfl rfl ?_
      refine AL_ev (Ev_not rfl) rfl ?_
      refine AL_nil ?_
      refine hK11 _ _ _ ?_
      refine AC_cond rfl (fun hc3 => ?_) (fun hc3 => ?_)
      · skip
        have hn3 : nilB cur = false := by simpa using hc3
        refine AC_seq fun K12 hK12 => ?_
        refine AC_region ?_
        refine AL_ev (Ev_assign) rfl ?_
        refine AL_ev (Ev_assign) rfl ?_
        refine AL_nil ?_
        refine hK12 _ _ _ ?_
        refine AC_ret ?_
        exact retl_nil [.bool false] hdm (.tmp rfl rfl (.tmp rfl rfl .nil)) (by rw [hok, hn3]; rfl) (by rw [hok, hn3]; rfl)
      · skip
        have hn3 : nilB cur = true := by simpa using hc3
        refine AC_skip ?_
        refine hK10 _ _ _ ?_
        refine AC_seq fun K13 hK13 => ?_
        refine AC_region ?_
        refine AL_ev (Ev_move) rfl ?_
        refine AL_ev (Ev_assign) rfl ?_
        refine AL_ev (Ev_assign) rfl ?_
        refine AL_nil ?_
        refine hK13 _ _ _ ?_
        refine AC_ret ?_
        exact retl_ok (ys := injs r) [.bool true] hdm (.tmp rfl rfl (.tmp rfl rfl .nil)) rfl rfl (by simp) (by rw [hok, hn3]; rfl) (by rw [hok, hn3]; rfl)

set_option maxHeartbeats 2000000 in
set_option maxRecDepth 4000 in
theorem c_itemsRaw (t : T) (xs : List T) (b : Bool) (h : Itm t xs b) (hb : bulk t ≤ 1099511627775) : PCall Try.prog 59 [inj t] (· = [.sl LT (injs xs), .c (.bool b)]) := by
  have hcn := h.bulk
  obtain ⟨r, e, hi, rfl, rfl⟩ := h
  have hsb := sz_bulk t
  refine PCall_of (n := 33) Try.func59 rfl rfl (Nat.le_of_ble_eq_true rfl) fun C hdm hT0 => ?_
  have hT := hT0
  refine AC_seq fun K1 hK1 => ?_
  refine AC_region ?_
  refine AL_box (Lay.st [.one, .one, .one, .one]) (nf rfl) rfl (by first | rfl | simp [Lay.len, Lay.lens]) _ rfl rfl ?_
  refine AL_ev (Ev_assign) rfl ?_
  refine AL_ev (Ev_assign) rfl ?_
  refine AL_nil ?_
  refine hK1 _ _ _ ?_
  refine AC_seq fun K2 hK2 => ?_
  refine AC_region ?_
  refine AL_bV (Lay.st [.one, .one, .one, .one]) rfl te24 ts35 tz35 rfl rfl (by decide) (by decide) (by first | rfl | simp [lenDs, goodVs, goodV, V.known, Lay.len, Lay.lens]) _ rfl rfl ?_
  refine AL_ev (Ev_assign) rfl ?_
  refine AL_nil ?_
  refine hK2 _ _ _ ?_
  refine AC_seq fun K3 hK3 => ?_
  refine AC_seq fun K4 hK4 => ?_
  refine AC_region ?_
  first | refine AL_ev (Ev_load_ptr rfl rfl rfl rfl rfl rfl ts35 ta35 (by first | rfl | assumption | simp) (by intro h; cases h)) rfl ?_ | refine AL_ev (Ev_load_rp rfl rfl rfl ts35 ta35 (by first | rfl | assumption | simp) (by intro h; cases h)) rfl ?_
  refine AL_fcall0 hT rfl cl51 (c_specTermOk t (by omega)) rfl rfl ?_
  refine AL_ev (Ev_not rfl) rfl ?_
  refine AL_nil ?_
  refine hK4 _ _ _ ?_
  refine AC_cond rfl (fun hc1 => ?_) (fun hc1 => ?_)
  · skip
    have hok : okT t = false := by simpa using hc1
    refine AC_seq fun K5 hK5 => ?_
    refine AC_region ?_
    refine AL_ev (Ev_move) rfl ?_
    refine AL_ev (Ev_assign) rfl ?_
    refine AL_ev (Ev_assign) rfl ?_
    refine AL_nil ?_
    refine hK5 _ _ _ ?_
    refine AC_ret ?_
    refine ret_ok hdm (.tmp rfl rfl (.tmp rfl rfl .nil)) (.cons (.ref trivial rfl rfl (by simp) .nil) (.cons .d .nil)) ?_
    rw [hok]; rfl
  · skip
    have hok : okT t = true := by simpa using hc1
    refine AC_skip ?_
    refine hK3 _ _ _ ?_
    refine AC_seq fun K6 hK6 => ?_
    refine AC_block ?_
    refine AC_loopS [1] (T × List T) (fun q => [(4, .ref LT 1 0 q.2.length)]) (fun q => [some ⟨35, LT, [.d (inj q.1)]⟩, some ⟨35, LT, (injs q.2).map V.d⟩]) (fun q => sz q.1) (fun q => ∃ r2, Its q.1 r2 e ∧ r = q.2 ++ r2 ∧ bulk q.1 ≤ 1099511627775 ∧ q.2.length + sz q.1 ≤ sz t) ((t, [])) ?_ ?_ ?_
    · skip
      exact enterS [some 0, some 1] rfl rfl (BxTo_some rfl rfl rfl rfl (.cons (.rd .d) .nil) (BxTo_some rfl rfl rfl rfl .nil BxTo_nil)) (SlTo_cons (Vw_refe rfl (by first | rfl | simp)) (SlTo_cons (by first | exact .rd .d | exact .ptr rfl | exact .ref rfl | exact .any | exact Vw_int (by omega)) SlTo_nil))
    · skip
      exact ⟨r, hi, rfl, hb, by simp⟩
    rintro ⟨cur, out⟩ ⟨r2, hi2, hr2, hbc, hos⟩
    simp only at hi2 hr2 hbc hos
    refine AC_seq fun K7 hK7 => ?_
    refine AC_seq fun K8 hK8 => ?_
    refine AC_region ?_
    first | refine AL_ev (Ev_load_ptr rfl rfl rfl rfl rfl rfl ts35 ta35 (by first | rfl | assumption | simp) (by intro h; cases h)) rfl ?_ | refine AL_ev (Ev_load_rp rfl rfl rfl ts35 ta35 (by first | rfl | assumption | simp) (by intro h; cases h)) rfl ?_
    refine AL_fcall0 hT rfl cl87 ((show PCall Try.prog 87 [inj cur, .c (.string nmDot), .c (.int .i64 2)] (· = [.c (.bool (pairB cur))]) from by obtain ⟨k, s, m, ks⟩ := cur; exact c_l03Is k s m ks nmDot 2)) rfl rfl ?_
    refine AL_nil ?_
    refine hK8 _ _ _ ?_
    refine AC_cond rfl (fun hc2 => ?_) (fun hc2 => ?_)
    · skip
      have hp2 : pairB cur = true := hc2
      obtain ⟨m, a, b2, rfl⟩ := pairB_mk hp2
      obtain ⟨r3, rfl, hi3⟩ := hi2.inv.2 m a b2 rfl
      have hu0 : (injs [a, b2])[(0 : Int).toNat]? = some (inj a) := rfl
      have hu1 : (injs [a, b2])[(1 : Int).toNat]? = some (inj b2) := rfl
      have hbb := bulk_mem hbc b2 (by simp)
      have hsz2 : sz b2 < sz (.mk 4 nmDot m [a, b2]) := by simp only [sz, szs]; omega
      refine AC_skip ?_
      refine hK7 _ _ _ ?_
      refine AC_block ?_
      refine AC_seq fun K9 hK9 => ?_
      refine AC_region ?_
      refine AL_ev (Ev_move) rfl ?_
      first | refine AL_ev (Ev_fa_ptr rfl fa35_3 rfl rfl) rfl ?_ | refine AL_ev (Ev_fa_rp rfl fa35_3 rfl rfl) rfl ?_
      first | refine AL_ev (Ev_load_ptr rfl rfl rfl rfl rfl rfl ts24 ta24 rfl (fun _ => rfl)) rfl ?_ | refine AL_ev (Ev_load_rp rfl rfl rfl ts24 ta24 rfl (fun _ => rfl)) rfl ?_
      first | refine AL_ev (Ev_ix_sl rfl rfl te24 ts35 (by omega) (by assumption)) rfl ?_ | refine AL_ev (Ev_ix_ref rfl rfl te24 ts35 (by omega) (by first | omega | (simp; omega))) rfl ?_
      first | refine AL_ev (Ev_load_ptr rfl rfl rfl rfl rfl rfl ts35 ta35 (by first | rfl | assumption | simp) (by intro h; cases h)) rfl ?_ | refine AL_ev (Ev_load_rp rfl rfl rfl ts35 ta35 (by first | rfl | assumption | simp) (by intro h; cases h)) rfl ?_
      first | refine AL_bD (Lay.st [.one, .one, .one, .one]) rfl te24 ts35 tz35 rfl rfl (by decide) (by decide) (by first | rfl | simp [lenDs, goodVs, goodV, V.known, Lay.len, Lay.lens]) rfl ?_ | refine AL_bV (Lay.st [.one, .one, .one, .one]) rfl te24 ts35 tz35 rfl rfl (by decide) (by decide) (by first | rfl | simp [lenDs, goodVs, goodV, V.known, Lay.len, Lay.lens]) _ rfl rfl ?_
      first | refine AL_append rfl rfl rfl te24 ts35 tz35 rfl tb35 (by decide) (by decide) rfl (by first | rfl | (simp; done) | (simp; omega)) (Src_sl rfl) (by simp only [lim]; first | omega | (simp; done) | (simp; omega)) _ rfl rfl ?_ | refine AL_append rfl rfl rfl te24 ts35 tz35 rfl tb35 (by decide) (by decide) rfl (by first | rfl | (simp; done) | (simp; omega)) (Src_ref rfl rfl rfl (by first | rfl | (simp; done) | (simp; omega))) (by simp only [lim]; first | omega | (simp; done) | (simp; omega)) _ rfl rfl ?_ | refine AL_append rfl rfl rfl te24 ts35 tz35 rfl tb35 (by decide) (by decide) rfl (by first | rfl | (simp; done) | (simp; omega)) (Src_nil rfl) (by simp only [lim]; first | omega | (simp; done) | (simp; omega)) _ rfl rfl ?_
      refine AL_ev (Ev_assign) rfl ?_
      refine AL_nil ?_
      refine hK9 _ _ _ ?_
      refine AC_region ?_
      first | refine AL_ev (Ev_fa_ptr rfl fa35_3 rfl rfl) rfl ?_ | refine AL_ev (Ev_fa_rp rfl fa35_3 rfl rfl) rfl ?_
      first | refine AL_ev (Ev_load_ptr rfl rfl rfl rfl rfl rfl ts24 ta24 rfl (fun _ => rfl)) rfl ?_ | refine AL_ev (Ev_load_rp rfl rfl rfl ts24 ta24 rfl (fun _ => rfl)) rfl ?_
      first | refine AL_ev (Ev_ix_sl rfl rfl te24 ts35 (by omega) (by assumption)) rfl ?_ | refine AL_ev (Ev_ix_ref rfl rfl te24 ts35 (by omega) (by first | omega | (simp; omega))) rfl ?_
      first | refine AL_ev (Ev_load_ptr rfl rfl rfl rfl rfl rfl ts35 ta35 (by first | rfl | assumption | simp) (by intro h; cases h)) rfl ?_ | refine AL_ev (Ev_load_rp rfl rfl rfl ts35 ta35 (by first | rfl | assumption | simp) (by intro h; cases h)) rfl ?_
      first | refine AL_store rfl (nf rfl) rfl rfl rfl rfl rfl rfl (by first | rfl | assumption | simp [Lay.len, Lay.lens]) ts35 rfl rfl ?_ | refine AL_store rfl (nf rfl) rfl rfl rfl hes rfl rfl (by first | rfl | assumption | simp [Lay.len, Lay.lens]) ts35 rfl rfl ?_
      refine AL_nil ?_
      refine closeS (b2, out ++ [a]) [some 0, some 2] rfl rfl (by show sz b2 < _; exact hsz2) ⟨r3, hi3, by rw [hr2]; simp, hbb, by simp only [List.length_append, List.length_singleton]; omega⟩ (BxTo_some rfl rfl rfl rfl (.cons (.rd .d) .nil) (BxTo_some rfl rfl rfl rfl (VwL_app (by simp [injs_map])) BxTo_nil)) (SlTo_cons (Vw_refe rfl (by first | rfl | simp)) (SlTo_cons (by first | exact .rd .d | exact .ptr rfl | exact .ref rfl | exact .any | exact Vw_int (by omega)) SlTo_nil))
    · skip
      have hp2 : pairB cur = false := hc2
      obtain ⟨hr0, he0⟩ := hi2.inv.1 hp2
      subst hr0
      have he0 := he0.symm
      subst he0
      rw [List.append_nil] at hr2
      subst hr2
      obtain ⟨k0, s0, m0, ks0⟩ := cur
      refine AC_exit ?_
      refine hK6 _ _ _ ?_
      refine AC_seq fun K10 hK10 => ?_
      refine AC_seq fun K11 hK11 => ?_
      refine AC_region ?_
      first | refine AL_ev (Ev_fa_ptr rfl fa35_0 rfl rfl) rfl ?_ | refine AL_ev (Ev_fa_rp rfl fa35_0 rfl rfl) rfl ?_
      first | refine AL_ev (Ev_load_ptr rfl rfl rfl rfl rfl rfl ts3 ta3 rfl (fun _ => rfl)) rfl ?_ | refine AL_ev (Ev_load_rp rfl rfl rfl ts3 ta3 rfl (fun _ => rfl)) rfl ?_
      refine AL_ev (Ev_neq rfl rfl) rfl ?_
      refine AL_ev (Ev_move) rfl ?_
      refine AL_bool 26 rfl (fun hg3 => ?_) (fun hg3 => ?_)
      · skip
        refine AL_guard_f rfl rfl rfl rfl ?_
        refine AL_guard_f rfl rfl rfl rfl ?_
        refine AL_guard_f rfl rfl rfl rfl ?_
        refine AL_ev (Ev_pick rfl) rfl ?_
        refine AL_nil ?_
        refine hK11 _ _ _ ?_
        refine AC_cond_t rfl ?_
        refine AC_seq fun K12 hK12 => ?_
        refine AC_region ?_
        refine AL_bV (Lay.st [.one, .one, .one, .one]) rfl te24 ts35 tz35 rfl rfl (by decide) (by decide) (by first | rfl | simp [lenDs, goodVs, goodV, V.known, Lay.len, Lay.lens]) _ rfl rfl ?_
        refine AL_ev (Ev_assign) rfl ?_
        refine AL_ev (Ev_assign) rfl ?_
        refine AL_nil ?_
        refine hK12 _ _ _ ?_
        refine AC_ret ?_
        refine ret_ok hdm (.tmp rfl rfl (.tmp rfl rfl .nil)) (.cons (by first | exact .ref trivial rfl rfl (by simp) .nil | exact .ref trivial rfl rfl (by simp) (ReadsL_d _) | exact .d) (.cons .d .nil)) ?_
        have hn3 : nilB (.mk k0 s0 m0 ks0) = false := by simp only [nilB, T.kind, T.name]; simp_all
        rw [hok, hn3]; rfl
      · skip
        refine AL_guard_t rfl rfl rfl ?_
        first | refine AL_ev (Ev_fa_ptr rfl fa35_1 rfl rfl) rfl ?_ | refine AL_ev (Ev_fa_rp rfl fa35_1 rfl rfl) rfl ?_
        refine AL_guard_t rfl rfl rfl ?_
        first | refine AL_ev (Ev_load_ptr rfl rfl rfl rfl rfl rfl ts9 ta9 rfl (fun _ => rfl)) rfl ?_ | refine AL_ev (Ev_load_rp rfl rfl rfl ts9 ta9 rfl (fun _ => rfl)) rfl ?_
        refine AL_guard_t rfl rfl rfl ?_
        refine AL_ev (Ev_sneq rfl rfl) rfl ?_
        refine AL_ev (Ev_pick rfl) rfl ?_
        refine AL_nil ?_
        refine hK11 _ _ _ ?_
        refine AC_cond rfl (fun hc4 => ?_) (fun hc4 => ?_)
        · skip
          refine AC_seq fun K13 hK13 => ?_
          refine AC_region ?_
          refine AL_bV (Lay.st [.one, .one, .one, .one]) rfl te24 ts35 tz35 rfl rfl (by decide) (by decide) (by first | rfl | simp [lenDs, goodVs, goodV, V.known, Lay.len, Lay.lens]) _ rfl rfl ?_
          refine AL_ev (Ev_assign) rfl ?_
          refine AL_ev (Ev_assign) rfl ?_
          refine AL_nil ?_
          refine hK13 _ _ _ ?_
          refine AC_ret ?_
          refine ret_ok hdm (.tmp rfl rfl (.tmp rfl rfl .nil)) (.cons (by first | exact .ref trivial rfl rfl (by simp) .nil | exact .ref trivial rfl rfl (by simp) (ReadsL_d _) | exact .d) (.cons .d .nil)) ?_
          have hn3 : nilB (.mk k0 s0 m0 ks0) = false := by simp only [nilB, T.kind, T.name]; simp_all
          rw [hok, hn3]; rfl
        · skip
          refine AC_skip ?_
          refine hK10 _ _ _ ?_
          refine AC_seq fun K14 hK14 => ?_
          refine AC_region ?_
          refine AL_ev (Ev_move) rfl ?_
          refine AL_ev (Ev_assign) rfl ?_
          refine AL_ev (Ev_assign) rfl ?_
          refine AL_nil ?_
          refine hK14 _ _ _ ?_
          refine AC_ret ?_
          refine ret_ok hdm (.tmp rfl rfl (.tmp rfl rfl .nil)) (.cons (by first | exact .ref trivial rfl rfl (by simp) .nil | exact .ref trivial rfl rfl (by simp) (ReadsL_d _) | exact .d) (.cons .d .nil)) ?_
          have hn3 : nilB (.mk k0 s0 m0 ks0) = true := by simp only [nilB, T.kind, T.name]; simp_all
          rw [hok, hn3]; rfl

set_option maxHeartbeats 1000000 in
set_option maxRecDepth 4000 in
theorem c_l34TermsL (ks : List T) : LCall Try.prog 38 [.sl LT (injs ks)] 35 LT (injs ks) [] := by
  refine LCall_of (n := 21) Try.func38 rfl rfl (Nat.le_of_ble_eq_true rfl) fun C hdm hT0 => ?_
  have hT := hT0
  refine AC_seq fun K1 hK1 => ?_
  refine AC_region ?_
  refine AL_ev (Ev_assign) rfl ?_
  refine AL_nil ?_
  refine hK1 _ _ _ ?_
  refine AC_seq fun K2 hK2 => ?_
  refine AC_region ?_
  refine AL_bV (Lay.st [.one, .one, .one, .one]) rfl te24 ts35 tz35 rfl rfl (by decide) (by decide) (by first | rfl | simp [lenDs, goodVs, goodV, V.known, Lay.len, Lay.lens]) _ rfl rfl ?_
  refine AL_ev (Ev_assign) rfl ?_
  refine AL_nil ?_
  refine hK2 _ _ _ ?_
  refine AC_seq fun K3 hK3 => ?_
  refine AC_seq fun K4 hK4 => ?_
  refine AC_region ?_
  refine AL_ev (Ev_assign) rfl ?_
  refine AL_nil ?_
  refine hK4 _ _ _ ?_
  refine AC_block ?_
  refine AC_loopS [0] (Nat) (fun j => [(3, .ref LT 0 0 j), (4, i64 j)]) (fun j => [some ⟨35, LT, (injs (ks.take j)).map V.d⟩]) (fun j => ks.length - j) (fun j => j ≤ ks.length) (0) ?_ ?_ ?_
  · skip
    exact enterS [some 0] rfl rfl (BxTo_some rfl rfl rfl rfl .nil BxTo_nil) (SlTo_cons (by first | exact .rd .d | exact .ptr rfl | exact .ref rfl | exact .any | exact Vw_int (by omega)) (SlTo_cons (by first | exact .rd .d | exact .ptr rfl | exact .ref rfl | exact .any | exact Vw_int (by omega)) (SlTo_cons (by first | exact .rd .d | exact .ptr rfl | exact .ref rfl | exact .any | exact Vw_int (by omega)) SlTo_nil)))
  · skip
    exact Nat.zero_le _
  intro j hj
  refine AC_seq fun K5 hK5 => ?_
  refine AC_seq fun K6 hK6 => ?_
  refine AC_region ?_
  refine AL_ev (Ev_move) rfl ?_
  refine AL_ev (Ev_move) rfl ?_
  first | refine AL_lim (x := (Operand.tmp 7)) rfl fun hl1 => ?_ | refine AL_limB (x := (Operand.tmp 7)) rfl rfl (by first | rfl | (simp; done) | (simp; omega)) fun hl1 => ?_ | have hl1 := True.intro
  try simp only [injs_length, ints_length, strs_length, injCs_length, u8s_length, List.length_map] at hl1
  first | refine AL_ev (Ev_len_injs te24 rfl) rfl ?_ | refine AL_ev (Ev_len_sl te24 rfl) rfl ?_ | refine AL_ev (Ev_len_ref te24 rfl) rfl ?_ | refine AL_ev (Ev_len_nil te24 rfl) rfl ?_ | refine AL_ev (Ev_len_c te24 rfl) rfl ?_
  refine AL_ev (Ev_lss rfl rfl) rfl ?_
  refine AL_nil ?_
  refine hK6 _ _ _ ?_
  refine AC_cond rfl (fun hc1 => ?_) (fun hc1 => ?_)
  · skip
    have hlt : j < ks.length := by simpa [injs_length] using hc1
    obtain ⟨u, hu⟩ : ∃ u, ks[j]? = some u := ⟨_, List.getElem?_eq_getElem hlt⟩
    have hu2 := injs_get hu
    refine AC_skip ?_
    refine hK5 _ _ _ ?_
    refine AC_seq fun K7 hK7 => ?_
    refine AC_block ?_
    refine AC_region ?_
    refine AL_ev (Ev_move) rfl ?_
    refine AL_ev (Ev_move) rfl ?_
    refine AL_ev (Ev_move) rfl ?_
    first | refine AL_ev (Ev_ix_sl rfl rfl te24 ts35 (by omega) (by assumption)) rfl ?_ | refine AL_ev (Ev_ix_ref rfl rfl te24 ts35 (by omega) (by first | omega | (simp; omega))) rfl ?_
    first | refine AL_ev (Ev_load_ptr rfl rfl rfl rfl rfl rfl ts35 ta35 (by first | rfl | assumption | simp) (by intro h; cases h)) rfl ?_ | refine AL_ev (Ev_load_rp rfl rfl rfl ts35 ta35 (by first | rfl | assumption | simp) (by intro h; cases h)) rfl ?_
    refine AL_fcall0 hT rfl cl65 (c_l34Term u) rfl rfl ?_
    first | refine AL_bD (Lay.st [.one, .one, .one, .one]) rfl te24 ts35 tz35 rfl rfl (by decide) (by decide) (by first | rfl | simp [lenDs, goodVs, goodV, V.known, Lay.len, Lay.lens]) rfl ?_ | refine AL_bV (Lay.st [.one, .one, .one, .one]) rfl te24 ts35 tz35 rfl rfl (by decide) (by decide) (by first | rfl | simp [lenDs, goodVs, goodV, V.known, Lay.len, Lay.lens]) _ rfl rfl ?_
    first | refine AL_append rfl rfl rfl te24 ts35 tz35 rfl tb35 (by decide) (by decide) rfl (by first | rfl | (simp; done) | (simp; omega)) (Src_sl rfl) (by simp only [lim]; first | omega | (simp; done) | (simp; omega)) _ rfl rfl ?_ | refine AL_append rfl rfl rfl te24 ts35 tz35 rfl tb35 (by decide) (by decide) rfl (by first | rfl | (simp; done) | (simp; omega)) (Src_ref rfl rfl rfl (by first | rfl | (simp; done) | (simp; omega))) (by simp only [lim]; first | omega | (simp; done) | (simp; omega)) _ rfl rfl ?_ | refine AL_append rfl rfl rfl te24 ts35 tz35 rfl tb35 (by decide) (by decide) rfl (by first | rfl | (simp; done) | (simp; omega)) (Src_nil rfl) (by simp only [lim]; first | omega | (simp; done) | (simp; omega)) _ rfl rfl ?_
    refine AL_ev (Ev_assign) rfl ?_
    refine AL_nil ?_
    refine hK7 _ _ _ ?_
    refine AC_region ?_
    refine AL_ev (Ev_move) rfl ?_
    first | refine AL_ev (Ev_add rfl rfl _ (wrap_id (by first | omega | (simp; omega)) (by first | omega | (simp; omega)))) rfl ?_ | refine AL_ev (Ev_add rfl rfl _ rfl) rfl ?_
    refine AL_ev (Ev_assign) rfl ?_
    refine AL_nil ?_
    refine closeS (j + 1) [some 1] rfl rfl (by show ks.length - (j + 1) < ks.length - j; omega) hlt (BxTo_some rfl rfl rfl rfl (VwL_app (by rw [injs_take_get hu])) BxTo_nil) (SlTo_cons (Vw_refe rfl (by simp)) (SlTo_cons (Vw_int (by omega)) (SlTo_cons (by first | exact .rd .d | exact .ptr rfl | exact .ref rfl | exact .any | exact Vw_int (by omega)) SlTo_nil)))
  · skip
    refine AC_exit ?_
    refine hK3 _ _ _ ?_
    refine AC_seq fun K8 hK8 => ?_
    refine AC_region ?_
    refine AL_ev (Ev_move) rfl ?_
    refine AL_ev (Ev_assign) rfl ?_
    refine AL_nil ?_
    refine hK8 _ _ _ ?_
    refine AC_ret ?_
    have hj2 : j = ks.length := by
      have : ¬ j < ks.length := by simpa [injs_length] using hc1
      omega
    subst hj2
    exact retl_ok [] hdm (.tmp rfl rfl .nil) rfl rfl (by simp) (by rw [List.take_length]) rfl

set_option maxHeartbeats 1000000 in
set_option maxRecDepth 4000 in
theorem c_specItemsOf (t : T) (xs : List T) (b : Bool) (h : Itm t xs b) (hb : bulk t ≤ 1099511627775) : LCall Try.prog 24 [inj t] 35 LT (injs xs) [.bool b] := by
  refine LCall_of (n := 14) Try.func24 rfl rfl (Nat.le_of_ble_eq_true rfl) fun C hdm hT0 => ?_
  have hT := hT0
  refine AC_seq fun K1 hK1 => ?_
  refine AC_region ?_
  refine AL_box (Lay.st [.one, .one, .one, .one]) (nf rfl) rfl (by first | rfl | simp [Lay.len, Lay.lens]) _ rfl rfl ?_
  refine AL_ev (Ev_assign) rfl ?_
  refine AL_ev (Ev_assign) rfl ?_
  refine AL_nil ?_
  refine hK1 _ _ _ ?_
  refine AC_seq fun K2 hK2 => ?_
  refine AC_region ?_
  first | refine AL_ev (Ev_load_ptr rfl rfl rfl rfl rfl rfl ts35 ta35 (by first | rfl | assumption | simp) (by intro h; cases h)) rfl ?_ | refine AL_ev (Ev_load_rp rfl rfl rfl ts35 ta35 (by first | rfl | assumption | simp) (by intro h; cases h)) rfl ?_
  refine AL_fcall0 hT rfl cl59 (c_itemsRaw t xs b h hb) rfl rfl ?_
  refine AL_ev (Ev_move) rfl ?_
  refine AL_ev (Ev_extract rfl rfl) rfl ?_
  refine AL_ev (Ev_extract rfl rfl) rfl ?_
  refine AL_ev (Ev_assign) rfl ?_
  refine AL_ev (Ev_assign) rfl ?_
  refine AL_nil ?_
  refine hK2 _ _ _ ?_
  refine AC_seq fun K3 hK3 => ?_
  refine AC_region ?_
  refine AL_ev (Ev_move) rfl ?_
  refine AL_llcall hT rfl cl38 (c_l34TermsL xs) rfl _ rfl rfl rfl ?_
  refine AL_ev (Ev_move) rfl ?_
  refine AL_ev (Ev_assign) rfl ?_
  refine AL_ev (Ev_assign) rfl ?_
  refine AL_nil ?_
  refine hK3 _ _ _ ?_
  refine AC_ret ?_
  exact retl_ok (ys := injs xs) [.bool b] hdm (.tmp rfl rfl (.tmp rfl rfl .nil)) rfl rfl (by simp) rfl rfl

set_option maxHeartbeats 1000000 in
set_option maxRecDepth 4000 in
theorem c_joined (a b : T) (x y : List T) (b1 b2 : Bool) (h1 : Itm a x b1) (h2 : Itm b y b2) (hb1 : bulk a ≤ 1048576) (hb2 : bulk b ≤ 1048576) (o : T) (k : Bool) (hj : Jnd a b x y b1 b2 o k) : PCall Try.prog 28 [inj a, inj b] (· = [inj o, .c (.bool k)]) := by
  have hn1 := h1.bulk
  have hn2 := h2.bulk
  have hbx := bulk_mkListE b x
  have hxn := bulkL_nn x
  have hyn := bulkL_nn y
  have hsa := sz_bulk a
  have hsb := sz_bulk b
  obtain ⟨rfl, rfl⟩ := hj
  refine PCall_of (n := 38) Try.func28 rfl rfl (Nat.le_of_ble_eq_true rfl) fun C hdm hT0 => ?_
  have hT := hT0
  refine AC_seq fun K1 hK1 => ?_
  refine AC_region ?_
  refine AL_box (Lay.st [.one, .one, .one, .one]) (nf rfl) rfl (by first | rfl | simp [Lay.len, Lay.lens]) _ rfl rfl ?_
  refine AL_box (Lay.st [.one, .one, .one, .one]) (nf rfl) rfl (by first | rfl | simp [Lay.len, Lay.lens]) _ rfl rfl ?_
  refine AL_alloc zo35 _ rfl rfl ?_
  refine AL_ev (Ev_assign) rfl ?_
  refine AL_nil ?_
  refine hK1 _ _ _ ?_
  refine AC_seq fun K2 hK2 => ?_
  refine AC_region ?_
  first | refine AL_ev (Ev_load_ptr rfl rfl rfl rfl rfl rfl ts35 ta35 (by first | rfl | assumption | simp) (by intro h; cases h)) rfl ?_ | refine AL_ev (Ev_load_rp rfl rfl rfl ts35 ta35 (by first | rfl | assumption | simp) (by intro h; cases h)) rfl ?_
  refine AL_fcall0 hT rfl cl23 ((c_itemsOf a x b1 h1 (by omega)).pcall rfl) rfl rfl ?_
  refine AL_ev (Ev_move) rfl ?_
  refine AL_ev (Ev_extract rfl rfl) rfl ?_
  refine AL_ev (Ev_extract rfl rfl) rfl ?_
  refine AL_ev (Ev_assign) rfl ?_
  refine AL_ev (Ev_assign) rfl ?_
  refine AL_nil ?_
  refine hK2 _ _ _ ?_
  refine AC_seq fun K3 hK3 => ?_
  refine AC_region ?_
  first | refine AL_ev (Ev_load_ptr rfl rfl rfl rfl rfl rfl ts35 ta35 (by first | rfl | assumption | simp) (by intro h; cases h)) rfl ?_ | refine AL_ev (Ev_load_rp rfl rfl rfl ts35 ta35 (by first | rfl | assumption | simp) (by intro h; cases h)) rfl ?_
  refine AL_fcall0 hT rfl cl23 ((c_itemsOf b y b2 h2 (by omega)).pcall rfl) rfl rfl ?_
  refine AL_ev (Ev_move) rfl ?_
  refine AL_ev (Ev_extract rfl rfl) rfl ?_
  refine AL_ev (Ev_extract rfl rfl) rfl ?_
  refine AL_ev (Ev_assign) rfl ?_
  refine AL_ev (Ev_assign) rfl ?_
  refine AL_nil ?_
  refine hK3 _ _ _ ?_
  refine AC_seq fun K4 hK4 => ?_
  refine AC_region ?_
  refine AL_ev (Ev_move) rfl ?_
  first | refine AL_ev (Ev_load_ptr rfl rfl rfl rfl rfl rfl ts35 ta35 (by first | rfl | assumption | simp) (by intro h; cases h)) rfl ?_ | refine AL_ev (Ev_load_rp rfl rfl rfl ts35 ta35 (by first | rfl | assumption | simp) (by intro h; cases h)) rfl ?_
  refine AL_fcall0 hT rfl cl41 (c_copyTerm b) rfl rfl ?_
  refine AL_fcall0 hT rfl cl63 (c_listOf x b) rfl rfl ?_
  refine AL_alloc zo35 _ rfl rfl ?_
  first | refine AL_store rfl (nf rfl) rfl rfl rfl rfl rfl rfl (by first | rfl | assumption | simp [Lay.len, Lay.lens]) ts35 rfl rfl ?_ | refine AL_store rfl (nf rfl) rfl rfl rfl hes rfl rfl (by first | rfl | assumption | simp [Lay.len, Lay.lens]) ts35 rfl rfl ?_
  refine AL_nil ?_
  refine hK4 _ _ _ ?_
  refine AC_seq fun K5 hK5 => ?_
  refine AC_seq fun K6 hK6 => ?_
  refine AC_region ?_
  refine AL_ev (Ev_move) rfl ?_
  refine AL_ev (Ev_not rfl) rfl ?_
  refine AL_ev (Ev_move) rfl ?_
  refine AL_bool 27 rfl (fun hg1 => ?_) (fun hg1 => ?_)
  · skip
    refine AL_guard_f rfl rfl rfl rfl ?_
    refine AL_guard_f rfl rfl rfl rfl ?_
    refine AL_ev (Ev_pick rfl) rfl ?_
    refine AL_ev (Ev_move) rfl ?_
    refine AL_guard_f rfl rfl rfl rfl ?_
    refine AL_guard_f rfl rfl rfl rfl ?_
    refine AL_guard_f rfl rfl rfl rfl ?_
    refine AL_ev (Ev_pick rfl) rfl ?_
    refine AL_nil ?_
    refine hK6 _ _ _ ?_
    refine AC_cond_t rfl ?_
    refine AC_seq fun K7 hK7 => ?_
    refine AC_region ?_
    refine AL_ev (Ev_build (fs := [.one, .one, .one, .one]) (zs := [.c (.int .i64 0), .c (.string ⟨#[]⟩), .c (.int .i64 0), .c (.slice none 0 0)]) tz35 rfl tpl35 .nil) rfl ?_
    first | refine AL_store rfl (nf rfl) rfl rfl rfl rfl rfl rfl (by first | rfl | assumption | simp [Lay.len, Lay.lens]) ts35 rfl rfl ?_ | refine AL_store rfl (nf rfl) rfl rfl rfl hes rfl rfl (by first | rfl | assumption | simp [Lay.len, Lay.lens]) ts35 rfl rfl ?_
    refine AL_ev (Ev_assign) rfl ?_
    refine AL_nil ?_
    refine hK7 _ _ _ ?_
    refine AC_ret ?_
    refine ret_ok hdm (.cell rfl rfl rfl rfl rfl rfl ts35 ta35 (by first | rfl | simp) (by intro h; cases h) (.tmp rfl rfl .nil)) (.cons (by first | exact .agg (.cons .d (.cons .d (.cons .d (.cons (.nil (l := LT)) .nil)))) | exact .d | exact .agg (.cons .d (.cons .d (.cons .d (.cons .d .nil))))) (.cons .d .nil)) ?_
    simp_all
    rfl
  · skip
    refine AL_guard_t rfl rfl rfl ?_
    refine AL_ev (Ev_move) rfl ?_
    refine AL_guard_t rfl rfl rfl ?_
    refine AL_ev (Ev_not rfl) rfl ?_
    refine AL_ev (Ev_pick rfl) rfl ?_
    refine AL_ev (Ev_move) rfl ?_
    refine AL_bool 31 rfl (fun hg2 => ?_) (fun hg2 => ?_)
    · skip
      refine AL_guard_f rfl rfl rfl rfl ?_
      refine AL_guard_f rfl rfl rfl rfl ?_
      refine AL_guard_f rfl rfl rfl rfl ?_
      refine AL_ev (Ev_pick rfl) rfl ?_
      refine AL_nil ?_
      refine hK6 _ _ _ ?_
      refine AC_cond_t rfl ?_
      refine AC_seq fun K8 hK8 => ?_
      refine AC_region ?_
      refine AL_ev (Ev_build (fs := [.one, .one, .one, .one]) (zs := [.c (.int .i64 0), .c (.string ⟨#[]⟩), .c (.int .i64 0), .c (.slice none 0 0)]) tz35 rfl tpl35 .nil) rfl ?_
      first | refine AL_store rfl (nf rfl) rfl rfl rfl rfl rfl rfl (by first | rfl | assumption | simp [Lay.len, Lay.lens]) ts35 rfl rfl ?_ | refine AL_store rfl (nf rfl) rfl rfl rfl hes rfl rfl (by first | rfl | assumption | simp [Lay.len, Lay.lens]) ts35 rfl rfl ?_
      refine AL_ev (Ev_assign) rfl ?_
      refine AL_nil ?_
      refine hK8 _ _ _ ?_
      refine AC_ret ?_
      refine ret_ok hdm (.cell rfl rfl rfl rfl rfl rfl ts35 ta35 (by first | rfl | simp) (by intro h; cases h) (.tmp rfl rfl .nil)) (.cons (by first | exact .agg (.cons .d (.cons .d (.cons .d (.cons (.nil (l := LT)) .nil)))) | exact .d | exact .agg (.cons .d (.cons .d (.cons .d (.cons .d .nil))))) (.cons .d .nil)) ?_
      simp_all
      rfl
    · skip
      refine AL_guard_t rfl rfl rfl ?_
      first | refine AL_ev (Ev_load_ptr rfl rfl rfl rfl rfl rfl ts35 ta35 (by first | rfl | assumption | simp) (by intro h; cases h)) rfl ?_ | refine AL_ev (Ev_load_rp rfl rfl rfl ts35 ta35 (by first | rfl | assumption | simp) (by intro h; cases h)) rfl ?_
      refine AL_guard_t rfl rfl rfl ?_
      refine AL_fcall0 hT rfl cl40 (c_termOk (mkListE b x) (by omega)) rfl rfl ?_
      refine AL_guard_t rfl rfl rfl ?_
      refine AL_ev (Ev_not rfl) rfl ?_
      refine AL_ev (Ev_pick rfl) rfl ?_
      refine AL_nil ?_
      refine hK6 _ _ _ ?_
      refine AC_cond rfl (fun hc3 => ?_) (fun hc3 => ?_)
      · skip
        refine AC_seq fun K9 hK9 => ?_
        refine AC_region ?_
        refine AL_ev (Ev_build (fs := [.one, .one, .one, .one]) (zs := [.c (.int .i64 0), .c (.string ⟨#[]⟩), .c (.int .i64 0), .c (.slice none 0 0)]) tz35 rfl tpl35 .nil) rfl ?_
        first | refine AL_store rfl (nf rfl) rfl rfl rfl rfl rfl rfl (by first | rfl | assumption | simp [Lay.len, Lay.lens]) ts35 rfl rfl ?_ | refine AL_store rfl (nf rfl) rfl rfl rfl hes rfl rfl (by first | rfl | assumption | simp [Lay.len, Lay.lens]) ts35 rfl rfl ?_
        refine AL_ev (Ev_assign) rfl ?_
        refine AL_nil ?_
        refine hK9 _ _ _ ?_
        refine AC_ret ?_
        refine ret_ok hdm (.cell rfl rfl rfl rfl rfl rfl ts35 ta35 (by first | rfl | simp) (by intro h; cases h) (.tmp rfl rfl .nil)) (.cons (by first | exact .agg (.cons .d (.cons .d (.cons .d (.cons (.nil (l := LT)) .nil)))) | exact .d | exact .agg (.cons .d (.cons .d (.cons .d (.cons .d .nil))))) (.cons .d .nil)) ?_
        simp_all
        rfl
      · skip
        refine AC_skip ?_
        refine hK5 _ _ _ ?_
        refine AC_seq fun K10 hK10 => ?_
        refine AC_region ?_
        first | refine AL_ev (Ev_load_ptr rfl rfl rfl rfl rfl rfl ts35 ta35 (by first | rfl | assumption | simp) (by intro h; cases h)) rfl ?_ | refine AL_ev (Ev_load_rp rfl rfl rfl ts35 ta35 (by first | rfl | assumption | simp) (by intro h; cases h)) rfl ?_
        first | refine AL_store rfl (nf rfl) rfl rfl rfl rfl rfl rfl (by first | rfl | assumption | simp [Lay.len, Lay.lens]) ts35 rfl rfl ?_ | refine AL_store rfl (nf rfl) rfl rfl rfl hes rfl rfl (by first | rfl | assumption | simp [Lay.len, Lay.lens]) ts35 rfl rfl ?_
        refine AL_ev (Ev_assign) rfl ?_
        refine AL_nil ?_
        refine hK10 _ _ _ ?_
        refine AC_ret ?_
        refine ret_ok hdm (.cell rfl rfl rfl rfl rfl rfl ts35 ta35 (inj_isAgg _) (by intro h; cases h) (.tmp rfl rfl .nil)) (.cons .d (.cons .d .nil)) ?_
        simp_all

set_option maxHeartbeats 1000000 in
set_option maxRecDepth 4000 in
theorem c_joinedRaw (a b : T) (x y : List T) (b1 b2 : Bool) (h1 : Itm a x b1) (h2 : Itm b y b2) (hb1 : bulk a ≤ 1048576) (hb2 : bulk b ≤ 1048576) (o : T) (k : Bool) (hj : Jnd a b x y b1 b2 o k) : PCall Try.prog 64 [inj a, inj b] (· = [inj o, .c (.bool k)]) := by
  have hn1 := h1.bulk
  have hn2 := h2.bulk
  have hbx := bulk_mkListE b x
  have hxn := bulkL_nn x
  have hyn := bulkL_nn y
  have hsa := sz_bulk a
  have hsb := sz_bulk b
  obtain ⟨rfl, rfl⟩ := hj
  have hjs : b2 = true → mkListE b x = mkList (x ++ y) := fun h => jnd_spec h2 h
  have hbo : bulk (mkList (x ++ y)) ≤ 1099511627775 := by
    rw [← mkListE_nil, bulk_mkListE, bulk_leaf]
    have h9 : (nmNil.size : Int) = 2 := rfl
    rw [h9]
    have h8 : bulkL (x ++ y) = bulkL x + bulkL y := bulkL_app x y
    rw [h8, List.length_append]
    omega
  refine PCall_of (n := 38) Try.func64 rfl rfl (Nat.le_of_ble_eq_true rfl) fun C hdm hT0 => ?_
  have hT := hT0
  refine AC_seq fun K1 hK1 => ?_
  refine AC_region ?_
  refine AL_box (Lay.st [.one, .one, .one, .one]) (nf rfl) rfl (by first | rfl | simp [Lay.len, Lay.lens]) _ rfl rfl ?_
  refine AL_box (Lay.st [.one, .one, .one, .one]) (nf rfl) rfl (by first | rfl | simp [Lay.len, Lay.lens]) _ rfl rfl ?_
  refine AL_alloc zo35 _ rfl rfl ?_
  refine AL_ev (Ev_assign) rfl ?_
  refine AL_nil ?_
  refine hK1 _ _ _ ?_
  refine AC_seq fun K2 hK2 => ?_
  refine AC_region ?_
  first | refine AL_ev (Ev_load_ptr rfl rfl rfl rfl rfl rfl ts35 ta35 (by first | rfl | assumption | simp) (by intro h; cases h)) rfl ?_ | refine AL_ev (Ev_load_rp rfl rfl rfl ts35 ta35 (by first | rfl | assumption | simp) (by intro h; cases h)) rfl ?_
  refine AL_llcall hT rfl cl24 (c_specItemsOf a x b1 h1 (by omega)) rfl _ rfl rfl rfl ?_
  refine AL_ev (Ev_move) rfl ?_
  refine AL_ev (Ev_extract rfl rfl) rfl ?_
  refine AL_ev (Ev_extract rfl rfl) rfl ?_
  refine AL_ev (Ev_assign) rfl ?_
  refine AL_ev (Ev_assign) rfl ?_
  refine AL_nil ?_
  refine hK2 _ _ _ ?_
  refine AC_seq fun K3 hK3 => ?_
  refine AC_region ?_
  first | refine AL_ev (Ev_load_ptr rfl rfl rfl rfl rfl rfl ts35 ta35 (by first | rfl | assumption | simp) (by intro h; cases h)) rfl ?_ | refine AL_ev (Ev_load_rp rfl rfl rfl ts35 ta35 (by first | rfl | assumption | simp) (by intro h; cases h)) rfl ?_
  refine AL_llcall hT rfl cl24 (c_specItemsOf b y b2 h2 (by omega)) rfl _ rfl rfl rfl ?_
  refine AL_ev (Ev_move) rfl ?_
  refine AL_ev (Ev_extract rfl rfl) rfl ?_
  refine AL_ev (Ev_extract rfl rfl) rfl ?_
  refine AL_ev (Ev_assign) rfl ?_
  refine AL_ev (Ev_assign) rfl ?_
  refine AL_nil ?_
  refine hK3 _ _ _ ?_
  refine AC_seq fun K4 hK4 => ?_
  refine AC_region ?_
  refine AL_ev (Ev_move) rfl ?_
  refine AL_ev (Ev_move) rfl ?_
  first | refine AL_append rfl rfl rfl te24 ts35 tz35 rfl tb35 (by decide) (by decide) rfl (by first | rfl | (simp; done) | (simp; omega)) (Src_sl rfl) (by simp only [lim]; first | omega | (simp; done) | (simp; omega)) _ rfl rfl ?_ | refine AL_append rfl rfl rfl te24 ts35 tz35 rfl tb35 (by decide) (by decide) rfl (by first | rfl | (simp; done) | (simp; omega)) (Src_ref rfl rfl rfl (by first | rfl | (simp; done) | (simp; omega))) (by simp only [lim]; first | omega | (simp; done) | (simp; omega)) _ rfl rfl ?_ | refine AL_append rfl rfl rfl te24 ts35 tz35 rfl tb35 (by decide) (by decide) rfl (by first | rfl | (simp; done) | (simp; omega)) (Src_nil rfl) (by simp only [lim]; first | omega | (simp; done) | (simp; omega)) _ rfl rfl ?_
  refine AL_wk (Wk_to [some 2] [(4, .ptr LT 0 0 []), (7, bl b1), (9, bl b2), (23, .d (.sl LT (injs (x ++ y))))] [some ⟨35, LT, [.d zT]⟩] rfl rfl (BxTo_some rfl rfl rfl rfl (.cons (.rd .d) .nil) BxTo_nil) (SlTo_cons (.ptr rfl) (SlTo_cons (.rd .d) (SlTo_cons (.rd .d) (SlTo_cons (.rd (.ref (srcFree rfl) rfl rfl (by simp) (ReadsL_eq (by simp [injs_map])))) SlTo_nil)))) ?_)
  refine AL_fcall0 hT rfl cl85 (c_make21 (x ++ y)) rfl rfl ?_
  refine AL_alloc zo35 _ rfl rfl ?_
  first | refine AL_store rfl (nf rfl) rfl rfl rfl rfl rfl rfl (by first | rfl | assumption | simp [Lay.len, Lay.lens]) ts35 rfl rfl ?_ | refine AL_store rfl (nf rfl) rfl rfl rfl hes rfl rfl (by first | rfl | assumption | simp [Lay.len, Lay.lens]) ts35 rfl rfl ?_
  refine AL_nil ?_
  refine hK4 _ _ _ ?_
  refine AC_seq fun K5 hK5 => ?_
  refine AC_seq fun K6 hK6 => ?_
  refine AC_region ?_
  refine AL_ev (Ev_move) rfl ?_
  refine AL_ev (Ev_not rfl) rfl ?_
  refine AL_ev (Ev_move) rfl ?_
  refine AL_bool 27 rfl (fun hg1 => ?_) (fun hg1 => ?_)
  · skip
    refine AL_guard_f rfl rfl rfl rfl ?_
    refine AL_guard_f rfl rfl rfl rfl ?_
    refine AL_ev (Ev_pick rfl) rfl ?_
    refine AL_ev (Ev_move) rfl ?_
    refine AL_guard_f rfl rfl rfl rfl ?_
    refine AL_guard_f rfl rfl rfl rfl ?_
    refine AL_guard_f rfl rfl rfl rfl ?_
    refine AL_ev (Ev_pick rfl) rfl ?_
    refine AL_nil ?_
    refine hK6 _ _ _ ?_
    refine AC_cond_t rfl ?_
    refine AC_seq fun K7 hK7 => ?_
    refine AC_region ?_
    refine AL_ev (Ev_build (fs := [.one, .one, .one, .one]) (zs := [.c (.int .i64 0), .c (.string ⟨#[]⟩), .c (.int .i64 0), .c (.slice none 0 0)]) tz35 rfl tpl35 .nil) rfl ?_
    first | refine AL_store rfl (nf rfl) rfl rfl rfl rfl rfl rfl (by first | rfl | assumption | simp [Lay.len, Lay.lens]) ts35 rfl rfl ?_ | refine AL_store rfl (nf rfl) rfl rfl rfl hes rfl rfl (by first | rfl | assumption | simp [Lay.len, Lay.lens]) ts35 rfl rfl ?_
    refine AL_ev (Ev_assign) rfl ?_
    refine AL_nil ?_
    refine hK7 _ _ _ ?_
    refine AC_ret ?_
    refine ret_ok hdm (.cell rfl rfl rfl rfl rfl rfl ts35 ta35 (by first | rfl | simp) (by intro h; cases h) (.tmp rfl rfl .nil)) (.cons (by first | exact .agg (.cons .d (.cons .d (.cons .d (.cons (.nil (l := LT)) .nil)))) | exact .d | exact .agg (.cons .d (.cons .d (.cons .d (.cons .d .nil))))) (.cons .d .nil)) ?_
    simp_all
    rfl
  · skip
    refine AL_guard_t rfl rfl rfl ?_
    refine AL_ev (Ev_move) rfl ?_
    refine AL_guard_t rfl rfl rfl ?_
    refine AL_ev (Ev_not rfl) rfl ?_
    refine AL_ev (Ev_pick rfl) rfl ?_
    refine AL_ev (Ev_move) rfl ?_
    refine AL_bool 31 rfl (fun hg2 => ?_) (fun hg2 => ?_)
    · skip
      refine AL_guard_f rfl rfl rfl rfl ?_
      refine AL_guard_f rfl rfl rfl rfl ?_
      refine AL_guard_f rfl rfl rfl rfl ?_
      refine AL_ev (Ev_pick rfl) rfl ?_
      refine AL_nil ?_
      refine hK6 _ _ _ ?_
      refine AC_cond_t rfl ?_
      refine AC_seq fun K8 hK8 => ?_
      refine AC_region ?_
      refine AL_ev (Ev_build (fs := [.one, .one, .one, .one]) (zs := [.c (.int .i64 0), .c (.string ⟨#[]⟩), .c (.int .i64 0), .c (.slice none 0 0)]) tz35 rfl tpl35 .nil) rfl ?_
      first | refine AL_store rfl (nf rfl) rfl rfl rfl rfl rfl rfl (by first | rfl | assumption | simp [Lay.len, Lay.lens]) ts35 rfl rfl ?_ | refine AL_store rfl (nf rfl) rfl rfl rfl hes rfl rfl (by first | rfl | assumption | simp [Lay.len, Lay.lens]) ts35 rfl rfl ?_
      refine AL_ev (Ev_assign) rfl ?_
      refine AL_nil ?_
      refine hK8 _ _ _ ?_
      refine AC_ret ?_
      refine ret_ok hdm (.cell rfl rfl rfl rfl rfl rfl ts35 ta35 (by first | rfl | simp) (by intro h; cases h) (.tmp rfl rfl .nil)) (.cons (by first | exact .agg (.cons .d (.cons .d (.cons .d (.cons (.nil (l := LT)) .nil)))) | exact .d | exact .agg (.cons .d (.cons .d (.cons .d (.cons .d .nil))))) (.cons .d .nil)) ?_
      simp_all
      rfl
    · skip
      refine AL_guard_t rfl rfl rfl ?_
      first | refine AL_ev (Ev_load_ptr rfl rfl rfl rfl rfl rfl ts35 ta35 (by first | rfl | assumption | simp) (by intro h; cases h)) rfl ?_ | refine AL_ev (Ev_load_rp rfl rfl rfl ts35 ta35 (by first | rfl | assumption | simp) (by intro h; cases h)) rfl ?_
      refine AL_guard_t rfl rfl rfl ?_
      refine AL_fcall0 hT rfl cl51 (c_specTermOk (mkList (x ++ y)) (by omega)) rfl rfl ?_
      refine AL_guard_t rfl rfl rfl ?_
      refine AL_ev (Ev_not rfl) rfl ?_
      refine AL_ev (Ev_pick rfl) rfl ?_
      refine AL_nil ?_
      refine hK6 _ _ _ ?_
      refine AC_cond rfl (fun hc3 => ?_) (fun hc3 => ?_)
      · skip
        refine AC_seq fun K9 hK9 => ?_
        refine AC_region ?_
        refine AL_ev (Ev_build (fs := [.one, .one, .one, .one]) (zs := [.c (.int .i64 0), .c (.string ⟨#[]⟩), .c (.int .i64 0), .c (.slice none 0 0)]) tz35 rfl tpl35 .nil) rfl ?_
        first | refine AL_store rfl (nf rfl) rfl rfl rfl rfl rfl rfl (by first | rfl | assumption | simp [Lay.len, Lay.lens]) ts35 rfl rfl ?_ | refine AL_store rfl (nf rfl) rfl rfl rfl hes rfl rfl (by first | rfl | assumption | simp [Lay.len, Lay.lens]) ts35 rfl rfl ?_
        refine AL_ev (Ev_assign) rfl ?_
        refine AL_nil ?_
        refine hK9 _ _ _ ?_
        refine AC_ret ?_
        refine ret_ok hdm (.cell rfl rfl rfl rfl rfl rfl ts35 ta35 (by first | rfl | simp) (by intro h; cases h) (.tmp rfl rfl .nil)) (.cons (by first | exact .agg (.cons .d (.cons .d (.cons .d (.cons (.nil (l := LT)) .nil)))) | exact .d | exact .agg (.cons .d (.cons .d (.cons .d (.cons .d .nil))))) (.cons .d .nil)) ?_
        simp_all
        rfl
      · skip
        refine AC_skip ?_
        refine hK5 _ _ _ ?_
        refine AC_seq fun K10 hK10 => ?_
        refine AC_region ?_
        first | refine AL_ev (Ev_load_ptr rfl rfl rfl rfl rfl rfl ts35 ta35 (by first | rfl | assumption | simp) (by intro h; cases h)) rfl ?_ | refine AL_ev (Ev_load_rp rfl rfl rfl ts35 ta35 (by first | rfl | assumption | simp) (by intro h; cases h)) rfl ?_
        first | refine AL_store rfl (nf rfl) rfl rfl rfl rfl rfl rfl (by first | rfl | assumption | simp [Lay.len, Lay.lens]) ts35 rfl rfl ?_ | refine AL_store rfl (nf rfl) rfl rfl rfl hes rfl rfl (by first | rfl | assumption | simp [Lay.len, Lay.lens]) ts35 rfl rfl ?_
        refine AL_ev (Ev_assign) rfl ?_
        refine AL_nil ?_
        refine hK10 _ _ _ ?_
        refine AC_ret ?_
        refine ret_ok hdm (.cell rfl rfl rfl rfl rfl rfl ts35 ta35 (inj_isAgg _) (by intro h; cases h) (.tmp rfl rfl .nil)) (.cons .d (.cons .d .nil)) ?_
        simp_all

set_option maxHeartbeats 1000000 in
set_option maxRecDepth 4000 in
theorem c_specJoined (a b : T) (x y : List T) (b1 b2 : Bool) (h1 : Itm a x b1) (h2 : Itm b y b2) (hb1 : bulk a ≤ 1048576) (hb2 : bulk b ≤ 1048576) (o : T) (k : Bool) (hj : Jnd a b x y b1 b2 o k) : PCall Try.prog 29 [inj a, inj b] (· = [inj o, .c (.bool k)]) := by
  refine PCall_of (n := 17) Try.func29 rfl rfl (Nat.le_of_ble_eq_true rfl) fun C hdm hT0 => ?_
  have hT := hT0
  refine AC_seq fun K1 hK1 => ?_
  refine AC_region ?_
  refine AL_box (Lay.st [.one, .one, .one, .one]) (nf rfl) rfl (by first | rfl | simp [Lay.len, Lay.lens]) _ rfl rfl ?_
  refine AL_box (Lay.st [.one, .one, .one, .one]) (nf rfl) rfl (by first | rfl | simp [Lay.len, Lay.lens]) _ rfl rfl ?_
  refine AL_alloc zo35 _ rfl rfl ?_
  refine AL_ev (Ev_assign) rfl ?_
  refine AL_nil ?_
  refine hK1 _ _ _ ?_
  refine AC_seq fun K2 hK2 => ?_
  refine AC_region ?_
  first | refine AL_ev (Ev_load_ptr rfl rfl rfl rfl rfl rfl ts35 ta35 (by first | rfl | assumption | simp) (by intro h; cases h)) rfl ?_ | refine AL_ev (Ev_load_rp rfl rfl rfl ts35 ta35 (by first | rfl | assumption | simp) (by intro h; cases h)) rfl ?_
  first | refine AL_ev (Ev_load_ptr rfl rfl rfl rfl rfl rfl ts35 ta35 (by first | rfl | assumption | simp) (by intro h; cases h)) rfl ?_ | refine AL_ev (Ev_load_rp rfl rfl rfl ts35 ta35 (by first | rfl | assumption | simp) (by intro h; cases h)) rfl ?_
  refine AL_fcall0 hT rfl cl64 (c_joinedRaw a b x y b1 b2 h1 h2 hb1 hb2 o k hj) rfl rfl ?_
  refine AL_ev (Ev_move) rfl ?_
  refine AL_ev (Ev_extract rfl rfl) rfl ?_
  refine AL_ev (Ev_extract rfl rfl) rfl ?_
  refine AL_alloc zo35 _ rfl rfl ?_
  first | refine AL_store rfl (nf rfl) rfl rfl rfl rfl rfl rfl (by first | rfl | assumption | simp [Lay.len, Lay.lens]) ts35 rfl rfl ?_ | refine AL_store rfl (nf rfl) rfl rfl rfl hes rfl rfl (by first | rfl | assumption | simp [Lay.len, Lay.lens]) ts35 rfl rfl ?_
  refine AL_ev (Ev_assign) rfl ?_
  refine AL_nil ?_
  refine hK2 _ _ _ ?_
  refine AC_seq fun K3 hK3 => ?_
  refine AC_region ?_
  first | refine AL_ev (Ev_load_ptr rfl rfl rfl rfl rfl rfl ts35 ta35 (by first | rfl | assumption | simp) (by intro h; cases h)) rfl ?_ | refine AL_ev (Ev_load_rp rfl rfl rfl ts35 ta35 (by first | rfl | assumption | simp) (by intro h; cases h)) rfl ?_
  refine AL_fcall0 hT rfl cl65 (c_l34Term o) rfl rfl ?_
  refine AL_ev (Ev_move) rfl ?_
  first | refine AL_store rfl (nf rfl) rfl rfl rfl rfl rfl rfl (by first | rfl | assumption | simp [Lay.len, Lay.lens]) ts35 rfl rfl ?_ | refine AL_store rfl (nf rfl) rfl rfl rfl hes rfl rfl (by first | rfl | assumption | simp [Lay.len, Lay.lens]) ts35 rfl rfl ?_
  refine AL_ev (Ev_assign) rfl ?_
  refine AL_nil ?_
  refine hK3 _ _ _ ?_
  refine AC_ret ?_
  exact ret_ok hdm (.cell rfl rfl rfl rfl rfl rfl ts35 ta35 (inj_isAgg _) (by intro h; cases h) (.tmp rfl rfl .nil)) (.cons .d (.cons .d .nil)) rfl

set_option maxHeartbeats 2000000 in
set_option maxRecDepth 4000 in
theorem c_reverse (xs : List D) (hel : ∀ x ∈ xs, x.len? = 4 ∧ x.isAgg = true) (hl : xs.length ≤ 1099511627776) : HCall Try.prog 66 [.ref LT 0 0 xs.length] [⟨35, LT, xs.map V.d⟩] 1 none [] [⟨35, LT, xs.reverse.map V.d⟩] := by
  refine HCall_of (n := 28) Try.func66 rfl rfl (Nat.le_of_ble_eq_true rfl) (Nat.le_of_ble_eq_true rfl) fun C0 o hdm hT => ?_
  refine AC_seq fun K1 hK1 => ?_
  refine AC_region ?_
  refine AL_ev (Ev_move) rfl ?_
  first | refine AL_lim (x := (Operand.tmp 4)) rfl fun hl1 => ?_ | refine AL_limB (x := (Operand.tmp 4)) rfl rfl (by first | rfl | (simp; done) | (simp; omega)) fun hl1 => ?_ | have hl1 := True.intro
  try simp only [injs_length, ints_length, strs_length, injCs_length, u8s_length, List.length_map] at hl1
  first | refine AL_ev (Ev_len_injs te24 rfl) rfl ?_ | refine AL_ev (Ev_len_sl te24 rfl) rfl ?_ | refine AL_ev (Ev_len_ref te24 rfl) rfl ?_ | refine AL_ev (Ev_len_nil te24 rfl) rfl ?_ | refine AL_ev (Ev_len_c te24 rfl) rfl ?_
  first | refine AL_ev (Ev_sub rfl rfl _ (wrap_id (by first | omega | (simp; omega)) (by first | omega | (simp; omega)))) rfl ?_ | refine AL_ev (Ev_sub rfl rfl _ rfl) rfl ?_
  refine AL_ev (Ev_assign) rfl ?_
  refine AL_ev (Ev_assign) rfl ?_
  refine AL_nil ?_
  refine hK1 _ _ _ ?_
  refine AC_block ?_
  refine AC_loopS [] (Nat × Int × List D) (fun ⟨i, j, cur⟩ => [(2, i64 ((i : Nat) : Int)), (3, i64 j), (0, .ref LT 0 0 (cur).length)]) (fun ⟨i, j, cur⟩ => [some ⟨⟨35, some (o 0)⟩, LT, (cur).map V.d⟩]) (fun st => xs.length - st.1) (fun ⟨i, j, cur⟩ => (j = (xs.length : Int) - 1 - i ∧ 2 * i ≤ xs.length + 1 ∧ cur.length = xs.length ∧ (∀ q x, cur[q]? = some x → ((q < i ∨ xs.length - 1 - i < q) → xs.reverse[q]? = some x) ∧ ((i ≤ q ∧ q ≤ xs.length - 1 - i) → xs[q]? = some x)))) ((0, (xs.length : Int) - 1, xs)) ?_ ?_ ?_
  · skip
    exact enterS [some 0] rfl rfl (BxTo_some rfl rfl rfl rfl (by first | exact .nil | exact VwL_dd (by first | rfl | simp) | exact VwL_app (by first | rfl | simp) | exact VwL_of (by first | rfl | simp)) BxTo_nil) (SlTo_cons (by first | exact .rd .d | exact Vw_int (by first | rfl | assumption | omega | (simp; done) | (simp; omega)) | exact Vw_c (by first | rfl | (simp; done) | simp_all) | exact .any) (SlTo_cons (by first | exact .rd .d | exact Vw_int (by first | rfl | assumption | omega | (simp; done) | (simp; omega)) | exact Vw_c (by first | rfl | (simp; done) | simp_all) | exact .any) (SlTo_cons (Vw_refe rfl (by first | rfl | simp)) SlTo_nil)))
  · skip
    exact ⟨by omega, by omega, rfl, fun q x h => ⟨fun h9 => by have := lt_of_get h; omega, fun _ => h⟩⟩
  rintro ⟨i, j, cur⟩ ⟨hj, hi, hcl, hq⟩
  show AC _ _ _ _ _ (FS [] _ [(2, i64 ((i : Nat) : Int)), (3, i64 j), (0, .ref LT 0 0 (cur).length)]) [some ⟨⟨35, some (o 0)⟩, LT, (cur).map V.d⟩]
  refine AC_seq fun K2 hK2 => ?_
  refine AC_seq fun K3 hK3 => ?_
  refine AC_region ?_
  refine AL_ev (Ev_move) rfl ?_
  refine AL_ev (Ev_move) rfl ?_
  refine AL_ev (Ev_lss rfl rfl) rfl ?_
  refine AL_nil ?_
  refine hK3 _ _ _ ?_
  refine AC_cond rfl (fun hc1 => ?_) (fun hc1 => ?_)
  · skip
    have hlt : 2 * i + 1 < xs.length := by have := of_decide_eq_true hc1; omega
    obtain ⟨x, hx⟩ : ∃ x, cur[i]? = some x := ⟨_, List.getElem?_eq_getElem (by omega)⟩
    obtain ⟨y, hy⟩ : ∃ y, cur[xs.length - 1 - i]? = some y := ⟨_, List.getElem?_eq_getElem (by omega)⟩
    have hx0 := (hq i x hx).2 ⟨by omega, by omega⟩
    have hy0 := (hq (xs.length - 1 - i) y hy).2 ⟨by omega, by omega⟩
    obtain ⟨hx1, hx2⟩ := hel x (List.mem_of_getElem? hx0)
    obtain ⟨hy1, hy2⟩ := hel y (List.mem_of_getElem? hy0)
    have hxl : (V.d x).len? = Lay.len LT := hx1
    have hyl : (V.d y).len? = Lay.len LT := hy1
    have hxa : (V.d x).isAgg = true := hx2
    have hya : (V.d y).isAgg = true := hy2
    have hesA : (cur.map V.d)[0 + ((i : Nat) : Int).toNat]? = some (.d x) := by rw [show 0 + ((i : Nat) : Int).toNat = i by omega, List.getElem?_map, hx]; rfl
    have hesB : (cur.map V.d)[0 + (j).toNat]? = some (.d y) := by rw [show 0 + (j).toNat = xs.length - 1 - i by omega, List.getElem?_map, hy]; rfl
    have hesB2 : ((cur.map V.d).set (0 + ((i : Nat) : Int).toNat) (.d y))[0 + (j).toNat]? = some (.d y) := by rw [List.getElem?_set_ne (by omega)]; exact hesB
    refine AC_skip ?_
    refine hK2 _ _ _ ?_
    refine AC_seq fun K4 hK4 => ?_
    refine AC_block ?_
    refine AC_draw hT follows [0, 1, 2, 3, 4, 5, 6, 7, 8, 9, 10, 11, 12, 13, 14, 15] (by kernel_rfl) ?_
    refine DT_ev rfl (EA_move) rfl ?_
    refine DT_ev rfl (EA_move) rfl ?_
    refine DT_ev rfl (EA_move) rfl ?_
    refine DT_ev rfl (EA_move) rfl ?_
    refine DT_ev rfl (EA_move) rfl ?_
    refine DT_ev rfl (EA_move) rfl ?_
    first | refine DT_ev rfl (EA_ix_sl rfl rfl te24 ts35 (by omega) (by assumption)) rfl ?_ | refine DT_ev rfl (EA_ix_ref rfl rfl te24 ts35 (by omega) (by first | omega | (simp; omega))) rfl ?_
    first | refine DT_ev rfl (EA_load_ptr rfl rfl rfl hesB2 rfl rfl ts35 ta35 (by first | rfl | assumption | simp) (by intro h; cases h)) rfl ?_ | refine DT_ev rfl (EA_load_ptr rfl rfl rfl hesB rfl rfl ts35 ta35 (by first | rfl | assumption | simp) (by intro h; cases h)) rfl ?_ | refine DT_ev rfl (EA_load_ptr rfl rfl rfl hesA rfl rfl ts35 ta35 (by first | rfl | assumption | simp) (by intro h; cases h)) rfl ?_ | refine DT_ev rfl (EA_load_ptr rfl rfl rfl rfl rfl rfl ts35 ta35 (by first | rfl | assumption | simp) (by intro h; cases h)) rfl ?_ | refine DT_ev rfl (EA_load_rp rfl rfl rfl ts35 ta35 (by first | rfl | assumption | simp) (by intro h; cases h)) rfl ?_
    refine DT_ev rfl (EA_move) rfl ?_
    refine DT_ev rfl (EA_move) rfl ?_
    first | refine DT_ev rfl (EA_ix_sl rfl rfl te24 ts35 (by omega) (by assumption)) rfl ?_ | refine DT_ev rfl (EA_ix_ref rfl rfl te24 ts35 (by omega) (by first | omega | (simp; omega))) rfl ?_
    first | refine DT_ev rfl (EA_load_ptr rfl rfl rfl hesB2 rfl rfl ts35 ta35 (by first | rfl | assumption | simp) (by intro h; cases h)) rfl ?_ | refine DT_ev rfl (EA_load_ptr rfl rfl rfl hesB rfl rfl ts35 ta35 (by first | rfl | assumption | simp) (by intro h; cases h)) rfl ?_ | refine DT_ev rfl (EA_load_ptr rfl rfl rfl hesA rfl rfl ts35 ta35 (by first | rfl | assumption | simp) (by intro h; cases h)) rfl ?_ | refine DT_ev rfl (EA_load_ptr rfl rfl rfl rfl rfl rfl ts35 ta35 (by first | rfl | assumption | simp) (by intro h; cases h)) rfl ?_ | refine DT_ev rfl (EA_load_rp rfl rfl rfl ts35 ta35 (by first | rfl | assumption | simp) (by intro h; cases h)) rfl ?_
    first | refine DT_ev rfl (EA_ix_sl rfl rfl te24 ts35 (by omega) (by assumption)) rfl ?_ | refine DT_ev rfl (EA_ix_ref rfl rfl te24 ts35 (by omega) (by first | omega | (simp; omega))) rfl ?_
    first | refine DT_store rfl rfl (nf rfl) rfl rfl rfl rfl rfl rfl (by first | rfl | assumption | simp [Lay.len, Lay.lens]) ts35 rfl rfl ?_ | refine DT_store rfl rfl (nf rfl) rfl rfl rfl hesA rfl rfl (by first | rfl | assumption | simp [Lay.len, Lay.lens]) ts35 rfl rfl ?_ | refine DT_store rfl rfl (nf rfl) rfl rfl rfl hesB rfl rfl (by first | rfl | assumption | simp [Lay.len, Lay.lens]) ts35 rfl rfl ?_ | refine DT_store rfl rfl (nf rfl) rfl rfl rfl hesB2 rfl rfl (by first | rfl | assumption | simp [Lay.len, Lay.lens]) ts35 rfl rfl ?_
    first | refine DT_ev rfl (EA_ix_sl rfl rfl te24 ts35 (by omega) (by assumption)) rfl ?_ | refine DT_ev rfl (EA_ix_ref rfl rfl te24 ts35 (by omega) (by first | omega | (simp; omega))) rfl ?_
    first | refine DT_store rfl rfl (nf rfl) rfl rfl rfl rfl rfl rfl (by first | rfl | assumption | simp [Lay.len, Lay.lens]) ts35 rfl rfl ?_ | refine DT_store rfl rfl (nf rfl) rfl rfl rfl hesA rfl rfl (by first | rfl | assumption | simp [Lay.len, Lay.lens]) ts35 rfl rfl ?_ | refine DT_store rfl rfl (nf rfl) rfl rfl rfl hesB rfl rfl (by first | rfl | assumption | simp [Lay.len, Lay.lens]) ts35 rfl rfl ?_ | refine DT_store rfl rfl (nf rfl) rfl rfl rfl hesB2 rfl rfl (by first | rfl | assumption | simp [Lay.len, Lay.lens]) ts35 rfl rfl ?_
    refine DTi.nil ?_
    refine hK4 _ _ _ ?_
    refine AC_region ?_
    refine AL_ev (Ev_move) rfl ?_
    first | refine AL_ev (Ev_add rfl rfl _ (wrap_id (by first | omega | (simp; omega)) (by first | omega | (simp; omega)))) rfl ?_ | refine AL_ev (Ev_add rfl rfl _ rfl) rfl ?_
    refine AL_ev (Ev_move) rfl ?_
    first | refine AL_ev (Ev_sub rfl rfl _ (wrap_id (by first | omega | (simp; omega)) (by first | omega | (simp; omega)))) rfl ?_ | refine AL_ev (Ev_sub rfl rfl _ rfl) rfl ?_
    refine AL_ev (Ev_assign) rfl ?_
    refine AL_ev (Ev_assign) rfl ?_
    refine AL_nil ?_
    refine closeS (i + 1, j - 1, (cur.set i y).set (xs.length - 1 - i) x) [some 0] rfl rfl (by show xs.length - (i + 1) < xs.length - i; omega) ?_ (BxTo_some rfl rfl rfl rfl (by first | exact VwL_app (by rw [show 0 + ((i : Nat) : Int).toNat = i by omega, show 0 + (j).toNat = xs.length - 1 - i by omega]; simp [List.map_set]) | exact VwL_dd (by rw [show 0 + ((i : Nat) : Int).toNat = i by omega, show 0 + (j).toNat = xs.length - 1 - i by omega]; simp [List.map_set]) | exact VwL_of (by rw [show 0 + ((i : Nat) : Int).toNat = i by omega, show 0 + (j).toNat = xs.length - 1 - i by omega]; simp [List.map_set])) BxTo_nil) (SlTo_cons (by first | exact .rd .d | exact Vw_int (by first | rfl | assumption | omega | (simp; done) | (simp; omega)) | exact Vw_c (by first | rfl | (simp; done) | simp_all) | exact .any) (SlTo_cons (by first | exact .rd .d | exact Vw_int (by first | rfl | assumption | omega | (simp; done) | (simp; omega)) | exact Vw_c (by first | rfl | (simp; done) | simp_all) | exact .any) (SlTo_cons (Vw_refe rfl (by first | rfl | (simp; done) | (simp; omega))) SlTo_nil)))
    exact ⟨by omega, by omega, by rw [List.length_set, List.length_set]; exact hcl, rev_step hcl hlt hx hy hq⟩
  · skip
    have hge : xs.length ≤ 2 * i + 1 := by have := of_decide_eq_false hc1; omega
    have hfin : cur = xs.reverse := by
      apply List.ext_getElem?
      intro q
      by_cases h9 : q < xs.length
      · obtain ⟨x, hx⟩ : ∃ x, cur[q]? = some x := ⟨_, List.getElem?_eq_getElem (by omega)⟩
        rw [hx]
        by_cases h8 : q < i ∨ xs.length - 1 - i < q
        · exact ((hq q x hx).1 h8).symm
        · have h7 := (hq q x hx).2 ⟨by omega, by omega⟩
          rw [List.getElem?_reverse h9, show xs.length - 1 - q = q by omega]
          exact h7.symm
      · rw [List.getElem?_eq_none (by omega), List.getElem?_eq_none (by simp; omega)]
    refine AC_exit ?_
    exact reth_ok [0] (CExt.refl _) .nil rfl rfl (BxF_stay rfl rfl rfl rfl rfl (VxL_ds (by rw [hfin])) rfl BxF_nil) (Nat.le_refl _) .nil

end Go.Proofs.Ytjhdkjacfclipaa
