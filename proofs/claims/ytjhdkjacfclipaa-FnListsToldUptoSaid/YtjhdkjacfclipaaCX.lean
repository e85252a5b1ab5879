/- Contracts of functions. -/
import Derived.Test.YtjhdkjacfclipaaMt
import Derived.Test.YtjhdkjacfclipaaOk
import Derived.Test.YtjhdkjacfclipaaWn
import Derived.Test.YtjhdkjacfclipaaEng27
import Derived.Test.YtjhdkjacfclipaaSm
import Derived.Test.YtjhdkjacfclipaaOw
import Derived.Test.YtjhdkjacfclipaaGd
import Derived.Test.YtjhdkjacfclipaaProg
import Derived.KernelRfl
import Derived.Test.YtjhdkjacfclipaaCA
import Derived.Test.YtjhdkjacfclipaaCB
import Derived.Test.YtjhdkjacfclipaaCS
import Derived.Test.YtjhdkjacfclipaaCV
set_option linter.unusedVariables false
set_option linter.unusedSimpArgs false
namespace Go.Proofs.Ytjhdkjacfclipaa
open Go.Eng

theorem cl10 : Callable Try.prog 10 := Callable_of Try.func10 (by kernel_rfl) (by kernel_rfl)
theorem cl32 : Callable Try.prog 32 := Callable_of Try.func32 (by kernel_rfl) (by kernel_rfl)
theorem cl46 : Callable Try.prog 46 := Callable_of Try.func46 (by kernel_rfl) (by kernel_rfl)
theorem cl47 : Callable Try.prog 47 := Callable_of Try.func47 (by kernel_rfl) (by kernel_rfl)
theorem cl48 : Callable Try.prog 48 := Callable_of Try.func48 (by kernel_rfl) (by kernel_rfl)
theorem cl78 : Callable Try.prog 78 := Callable_of Try.func78 (by kernel_rfl) (by kernel_rfl)
theorem cl8 : Callable Try.prog 8 := Callable_of Try.func8 (by kernel_rfl) (by kernel_rfl)

set_option maxHeartbeats 1000000 in
set_option maxRecDepth 4000 in
theorem c_eqFunc (ks ks2 : List T) (ih : ∀ u ∈ ks, ∀ v ∈ ks2, PCall Try.prog 48 [inj u, inj v] (· = [.c (.bool (sameB u v))])) : PCall Try.prog 78 [.sl LT (injs ks), .sl LT (injs ks2), .fn 48 []] (· = [.c (.bool (sameBL ks ks2))]) := by
  refine PCall_of (n := 32) Try.func78 rfl rfl (Nat.le_of_ble_eq_true rfl) fun C hdm hT0 => ?_
  have hT := hT0
  refine AC_seq fun K1 hK1 => ?_
  refine AC_region ?_
  refine AL_ev (Ev_assign) rfl ?_
  refine AL_nil ?_
  refine hK1 _ _ _ ?_
  refine AC_seq fun K2 hK2 => ?_
  refine AC_seq fun K3 hK3 => ?_
  refine AC_region ?_
  refine AL_ev (Ev_move) rfl ?_
  first | refine AL_lim (x := (Operand.tmp 10)) rfl fun hl1 => ?_ | refine AL_limB (x := (Operand.tmp 10)) rfl rfl (by first | rfl | (simp; done) | (simp; omega)) fun hl1 => ?_ | have hl1 := True.intro
  try simp only [injs_length, ints_length, strs_length, injCs_length, u8s_length, List.length_map] at hl1
  first | refine AL_ev (Ev_len_injs te24 rfl) rfl ?_ | refine AL_ev (Ev_len_sl te24 rfl) rfl ?_ | refine AL_ev (Ev_len_ref te24 rfl) rfl ?_ | refine AL_ev (Ev_len_nil te24 rfl) rfl ?_ | refine AL_ev (Ev_len_c te24 rfl) rfl ?_
  refine AL_ev (Ev_move) rfl ?_
  first | refine AL_lim (x := (Operand.tmp 12)) rfl fun hl2 => ?_ | refine AL_limB (x := (Operand.tmp 12)) rfl rfl (by first | rfl | (simp; done) | (simp; omega)) fun hl2 => ?_ | have hl2 := True.intro
  try simp only [injs_length, ints_length, strs_length, injCs_length, u8s_length, List.length_map] at hl2
  first | refine AL_ev (Ev_len_injs te24 rfl) rfl ?_ | refine AL_ev (Ev_len_sl te24 rfl) rfl ?_ | refine AL_ev (Ev_len_ref te24 rfl) rfl ?_ | refine AL_ev (Ev_len_nil te24 rfl) rfl ?_ | refine AL_ev (Ev_len_c te24 rfl) rfl ?_
  refine AL_ev (Ev_neq rfl rfl) rfl ?_
  refine AL_nil ?_
  refine hK3 _ _ _ ?_
  refine AC_cond rfl (fun hc1 => ?_) (fun hc1 => ?_)
  · skip
    have hne : ¬ sameBL ks ks2 = true := fun h => by have := sameBL_len h; simp [this] at hc1
    refine AC_seq fun K4 hK4 => ?_
    refine AC_region ?_
    refine AL_ev (Ev_assign) rfl ?_
    refine AL_nil ?_
    refine hK4 _ _ _ ?_
    refine AC_ret ?_
    refine ret_ok hdm (.tmp rfl rfl .nil) (.cons .d .nil) ?_
    rw [Bool.eq_false_iff.2 hne]
  · skip
    have h9 : (ks.length : Int) = ks2.length := by simpa using hc1
    have hln : ks.length = ks2.length := by omega
    refine AC_skip ?_
    refine hK2 _ _ _ ?_
    refine AC_seq fun K5 hK5 => ?_
    refine AC_seq fun K6 hK6 => ?_
    refine AC_region ?_
    refine AL_ev (Ev_move) rfl ?_
    first | refine AL_lim (x := (Operand.tmp 15)) rfl fun hl3 => ?_ | refine AL_limB (x := (Operand.tmp 15)) rfl rfl (by first | rfl | (simp; done) | (simp; omega)) fun hl3 => ?_ | have hl3 := True.intro
    try simp only [injs_length, ints_length, strs_length, injCs_length, u8s_length, List.length_map] at hl3
    first | refine AL_ev (Ev_len_injs te24 rfl) rfl ?_ | refine AL_ev (Ev_len_sl te24 rfl) rfl ?_ | refine AL_ev (Ev_len_ref te24 rfl) rfl ?_ | refine AL_ev (Ev_len_nil te24 rfl) rfl ?_ | refine AL_ev (Ev_len_c te24 rfl) rfl ?_
    refine AL_ev (Ev_move) rfl ?_
    refine AL_nil ?_
    refine hK6 _ _ _ ?_
    refine AC_block ?_
    refine AC_loopS [1, 2, 15, 16] (Nat) (fun j => [(17, i64 j)]) (fun j => []) (fun st => ks.length - st) (fun j => j ≤ ks.length ∧ (sameBL ks ks2 = sameBL (ks.drop j) (ks2.drop j))) (0) ?_ ?_ ?_
    · skip
      exact enterS [] rfl rfl BxTo_nil (SlTo_cons (by first | exact .rd .d | exact Vw_int (by first | rfl | assumption | omega | (simp; done) | (simp; omega)) | exact Vw_c (by first | rfl | (simp; done) | simp_all) | exact .any) (SlTo_cons (by first | exact .rd .d | exact .any) (SlTo_cons (by first | exact .rd .d | exact .any) (SlTo_cons (by first | exact .rd .d | exact .any) (SlTo_cons (by first | exact .rd .d | exact .any) SlTo_nil)))))
    · skip
      exact ⟨Nat.zero_le _, by simp⟩
    rintro j ⟨hj, hI⟩
    show AC _ _ _ _ _ (FS [1, 2, 15, 16] _ [(17, i64 j)]) []
    refine AC_seq fun K7 hK7 => ?_
    refine AC_region ?_
    refine AL_ev (Ev_lss rfl rfl) rfl ?_
    refine AL_nil ?_
    refine hK7 _ _ _ ?_
    refine AC_seq fun K8 hK8 => ?_
    refine AC_cond rfl (fun hc2 => ?_) (fun hc2 => ?_)
    · skip
      have hlt : j < ks.length := by simpa using hc2
      obtain ⟨u, hu⟩ : ∃ x, ks[j]? = some x := ⟨_, List.getElem?_eq_getElem hlt⟩
      have hu2 := injs_get hu
      have hdr := drop_get hu
      obtain ⟨v, hv⟩ : ∃ x, ks2[j]? = some x := ⟨_, List.getElem?_eq_getElem (by omega)⟩
      have hv2 := injs_get hv
      have hdr2 := drop_get hv
      rw [hdr, hdr2, sameBL] at hI
      refine AC_skip ?_
      refine hK8 _ _ _ ?_
      refine AC_seq fun K9 hK9 => ?_
      refine AC_block ?_
      refine AC_seq fun K10 hK10 => ?_
      refine AC_region ?_
      refine AL_ev (Ev_move) rfl ?_
      first | refine AL_ev (Ev_ix_sl rfl rfl te24 ts35 (by omega) (by assumption)) rfl ?_ | refine AL_ev (Ev_ix_ref rfl rfl te24 ts35 (by omega) (by first | omega | (simp; omega))) rfl ?_
      first | refine AL_ev (Ev_load_ptr rfl rfl rfl rfl rfl rfl ts35 ta35 (by first | rfl | assumption | simp) (by intro h; cases h)) rfl ?_ | refine AL_ev (Ev_load_rp rfl rfl rfl ts35 ta35 (by first | rfl | assumption | simp) (by intro h; cases h)) rfl ?_
      refine AL_alloc zo35 _ rfl rfl ?_
      refine AL_ev (Ev_assign) rfl ?_
      first | refine AL_store rfl (nf rfl) rfl rfl rfl rfl rfl rfl (by first | rfl | assumption | simp [Lay.len, Lay.lens]) ts35 rfl rfl ?_ | refine AL_store rfl (nf rfl) rfl rfl rfl hes rfl rfl (by first | rfl | assumption | simp [Lay.len, Lay.lens]) ts35 rfl rfl ?_
      refine AL_nil ?_
      refine hK10 _ _ _ ?_
      refine AC_seq fun K11 hK11 => ?_
      refine AC_region ?_
      refine AL_ev (Ev_move) rfl ?_
      refine AL_ev (Ev_move) rfl ?_
      first | refine AL_ev (Ev_ix_sl rfl rfl te24 ts35 (by omega) (by assumption)) rfl ?_ | refine AL_ev (Ev_ix_ref rfl rfl te24 ts35 (by omega) (by first | omega | (simp; omega))) rfl ?_
      first | refine AL_ev (Ev_load_ptr rfl rfl rfl rfl rfl rfl ts35 ta35 (by first | rfl | assumption | simp) (by intro h; cases h)) rfl ?_ | refine AL_ev (Ev_load_rp rfl rfl rfl ts35 ta35 (by first | rfl | assumption | simp) (by intro h; cases h)) rfl ?_
      refine AL_alloc zo35 _ rfl rfl ?_
      first | refine AL_store rfl (nf rfl) rfl rfl rfl rfl rfl rfl (by first | rfl | assumption | simp [Lay.len, Lay.lens]) ts35 rfl rfl ?_ | refine AL_store rfl (nf rfl) rfl rfl rfl hes rfl rfl (by first | rfl | assumption | simp [Lay.len, Lay.lens]) ts35 rfl rfl ?_
      refine AL_nil ?_
      refine hK11 _ _ _ ?_
      refine AC_seq fun K12 hK12 => ?_
      refine AC_region ?_
      refine AL_ev (Ev_move) rfl ?_
      first | refine AL_ev (Ev_load_ptr rfl rfl rfl rfl rfl rfl ts35 ta35 (by first | rfl | assumption | simp) (by intro h; cases h)) rfl ?_ | refine AL_ev (Ev_load_rp rfl rfl rfl ts35 ta35 (by first | rfl | assumption | simp) (by intro h; cases h)) rfl ?_
      first | refine AL_ev (Ev_load_ptr rfl rfl rfl rfl rfl rfl ts35 ta35 (by first | rfl | assumption | simp) (by intro h; cases h)) rfl ?_ | refine AL_ev (Ev_load_rp rfl rfl rfl ts35 ta35 (by first | rfl | assumption | simp) (by intro h; cases h)) rfl ?_
      refine AL_fcall0 hT rfl cl48 (ih u (List.mem_of_getElem? hu) v (List.mem_of_getElem? hv)) rfl rfl ?_
      refine AL_ev (Ev_not rfl) rfl ?_
      refine AL_nil ?_
      refine hK12 _ _ _ ?_
      refine AC_cond rfl (fun hc3 => ?_) (fun hc3 => ?_)
      · skip
        refine AC_seq fun K13 hK13 => ?_
        refine AC_region ?_
        refine AL_ev (Ev_assign) rfl ?_
        refine AL_nil ?_
        refine hK13 _ _ _ ?_
        refine AC_ret ?_
        refine ret_ok hdm (.tmp rfl rfl .nil) (.cons .d .nil) ?_
        rw [hI, show sameB u v = false by simpa using hc3, Bool.false_and]
      · skip
        refine AC_skip ?_
        refine hK9 _ _ _ ?_
        refine AC_region ?_
        first | refine AL_ev (Ev_add rfl rfl _ (wrap_id (by first | omega | (simp; omega)) (by first | omega | (simp; omega)))) rfl ?_ | refine AL_ev (Ev_add rfl rfl _ rfl) rfl ?_
        refine AL_ev (Ev_move) rfl ?_
        refine AL_nil ?_
        refine closeS (j + 1) [] rfl rfl (by show ks.length - (j + 1) < ks.length - j; omega) ⟨hlt, ?_⟩ BxTo_nil (SlTo_cons (by first | exact .rd .d | exact Vw_int (by first | rfl | assumption | omega | (simp; done) | (simp; omega)) | exact Vw_c (by first | rfl | (simp; done) | simp_all) | exact .any) (SlTo_cons (by first | exact .rd .d | exact .any) (SlTo_cons (by first | exact .rd .d | exact .any) (SlTo_cons (by first | exact .rd .d | exact .any) (SlTo_cons (by first | exact .rd .d | exact .any) SlTo_nil)))))
        rw [hI, show sameB u v = true by simpa using hc3, Bool.true_and]
    · skip
      have hj2 : j = ks.length := by
        have : ¬ j < ks.length := by simpa using hc2
        omega
      subst hj2
      rw [List.drop_length] at hI
      refine AC_exit ?_
      refine hK5 _ _ _ ?_
      refine AC_seq fun K14 hK14 => ?_
      refine AC_region ?_
      refine AL_ev (Ev_assign) rfl ?_
      refine AL_nil ?_
      refine hK14 _ _ _ ?_
      refine AC_ret ?_
      refine ret_ok hdm (.tmp rfl rfl .nil) (.cons .d .nil) ?_
      rw [hI, List.drop_eq_nil_of_le (by omega)]; rfl

set_option maxHeartbeats 1000000 in
set_option maxRecDepth 4000 in
theorem c_sameTerm (t : T) : ∀ b : T, 0 = 0 → PCall Try.prog 48 [inj t, inj b] (· = [.c (.bool (sameB t b))]) := by
  induction t using T.ind with | h k s m ks ih => ?_
  rintro ⟨k2, s2, m2, ks2⟩ _
  refine PCall_of (n := 31) Try.func48 rfl rfl (Nat.le_of_ble_eq_true rfl) fun C hdm hT0 => ?_
  have hT := hT0
  refine AC_seq fun K1 hK1 => ?_
  refine AC_region ?_
  refine AL_box (Lay.st [.one, .one, .one, .one]) (nf rfl) rfl (by first | rfl | simp [Lay.len, Lay.lens]) _ rfl rfl ?_
  refine AL_box (Lay.st [.one, .one, .one, .one]) (nf rfl) rfl (by first | rfl | simp [Lay.len, Lay.lens]) _ rfl rfl ?_
  refine AL_ev (Ev_assign) rfl ?_
  refine AL_nil ?_
  refine hK1 _ _ _ ?_
  refine AC_seq fun K2 hK2 => ?_
  refine AC_region ?_
  first | refine AL_ev (Ev_fa_ptr rfl fa35_0 rfl rfl) rfl ?_ | refine AL_ev (Ev_fa_rp rfl fa35_0 rfl rfl) rfl ?_
  first | refine AL_ev (Ev_load_ptr rfl rfl rfl rfl rfl rfl ts3 ta3 rfl (fun _ => rfl)) rfl ?_ | refine AL_ev (Ev_load_rp rfl rfl rfl ts3 ta3 rfl (fun _ => rfl)) rfl ?_
  first | refine AL_ev (Ev_fa_ptr rfl fa35_0 rfl rfl) rfl ?_ | refine AL_ev (Ev_fa_rp rfl fa35_0 rfl rfl) rfl ?_
  first | refine AL_ev (Ev_load_ptr rfl rfl rfl rfl rfl rfl ts3 ta3 rfl (fun _ => rfl)) rfl ?_ | refine AL_ev (Ev_load_rp rfl rfl rfl ts3 ta3 rfl (fun _ => rfl)) rfl ?_
  refine AL_ev (Ev_eql rfl rfl) rfl ?_
  refine AL_ev (Ev_move) rfl ?_
  refine AL_bool 10 rfl (fun hg1 => ?_) (fun hg1 => ?_)
  · skip
    refine AL_guard_t rfl rfl rfl ?_
    first | refine AL_ev (Ev_fa_ptr rfl fa35_1 rfl rfl) rfl ?_ | refine AL_ev (Ev_fa_rp rfl fa35_1 rfl rfl) rfl ?_
    refine AL_guard_t rfl rfl rfl ?_
    first | refine AL_ev (Ev_load_ptr rfl rfl rfl rfl rfl rfl ts9 ta9 rfl (fun _ => rfl)) rfl ?_ | refine AL_ev (Ev_load_rp rfl rfl rfl ts9 ta9 rfl (fun _ => rfl)) rfl ?_
    refine AL_guard_t rfl rfl rfl ?_
    first | refine AL_ev (Ev_fa_ptr rfl fa35_1 rfl rfl) rfl ?_ | refine AL_ev (Ev_fa_rp rfl fa35_1 rfl rfl) rfl ?_
    refine AL_guard_t rfl rfl rfl ?_
    first | refine AL_ev (Ev_load_ptr rfl rfl rfl rfl rfl rfl ts9 ta9 rfl (fun _ => rfl)) rfl ?_ | refine AL_ev (Ev_load_rp rfl rfl rfl ts9 ta9 rfl (fun _ => rfl)) rfl ?_
    refine AL_guard_t rfl rfl rfl ?_
    refine AL_ev (Ev_seql rfl rfl) rfl ?_
    refine AL_ev (Ev_pick rfl) rfl ?_
    refine AL_ev (Ev_move) rfl ?_
    refine AL_bool 17 rfl (fun hg2 => ?_) (fun hg2 => ?_)
    · skip
      refine AL_guard_t rfl rfl rfl ?_
      first | refine AL_ev (Ev_fa_ptr rfl fa35_2 rfl rfl) rfl ?_ | refine AL_ev (Ev_fa_rp rfl fa35_2 rfl rfl) rfl ?_
      refine AL_guard_t rfl rfl rfl ?_
      first | refine AL_ev (Ev_load_ptr rfl rfl rfl rfl rfl rfl ts3 ta3 rfl (fun _ => rfl)) rfl ?_ | refine AL_ev (Ev_load_rp rfl rfl rfl ts3 ta3 rfl (fun _ => rfl)) rfl ?_
      refine AL_guard_t rfl rfl rfl ?_
      first | refine AL_ev (Ev_fa_ptr rfl fa35_2 rfl rfl) rfl ?_ | refine AL_ev (Ev_fa_rp rfl fa35_2 rfl rfl) rfl ?_
      refine AL_guard_t rfl rfl rfl ?_
      first | refine AL_ev (Ev_load_ptr rfl rfl rfl rfl rfl rfl ts3 ta3 rfl (fun _ => rfl)) rfl ?_ | refine AL_ev (Ev_load_rp rfl rfl rfl ts3 ta3 rfl (fun _ => rfl)) rfl ?_
      refine AL_guard_t rfl rfl rfl ?_
      refine AL_ev (Ev_eql rfl rfl) rfl ?_
      refine AL_ev (Ev_pick rfl) rfl ?_
      refine AL_ev (Ev_move) rfl ?_
      refine AL_bool 24 rfl (fun hg3 => ?_) (fun hg3 => ?_)
      · skip
        refine AL_guard_t rfl rfl rfl ?_
        first | refine AL_ev (Ev_fa_ptr rfl fa35_3 rfl rfl) rfl ?_ | refine AL_ev (Ev_fa_rp rfl fa35_3 rfl rfl) rfl ?_
        refine AL_guard_t rfl rfl rfl ?_
        first | refine AL_ev (Ev_load_ptr rfl rfl rfl rfl rfl rfl ts24 ta24 rfl (fun _ => rfl)) rfl ?_ | refine AL_ev (Ev_load_rp rfl rfl rfl ts24 ta24 rfl (fun _ => rfl)) rfl ?_
        refine AL_guard_t rfl rfl rfl ?_
        first | refine AL_ev (Ev_fa_ptr rfl fa35_3 rfl rfl) rfl ?_ | refine AL_ev (Ev_fa_rp rfl fa35_3 rfl rfl) rfl ?_
        refine AL_guard_t rfl rfl rfl ?_
        first | refine AL_ev (Ev_load_ptr rfl rfl rfl rfl rfl rfl ts24 ta24 rfl (fun _ => rfl)) rfl ?_ | refine AL_ev (Ev_load_rp rfl rfl rfl ts24 ta24 rfl (fun _ => rfl)) rfl ?_
        refine AL_guard_t rfl rfl rfl ?_
        refine AL_fcall0 hT rfl cl78 (c_eqFunc ks ks2 (fun u hu v _ => ih u hu v rfl)) rfl rfl ?_
        refine AL_ev (Ev_pick rfl) rfl ?_
        refine AL_ev (Ev_assign) rfl ?_
        refine AL_nil ?_
        refine hK2 _ _ _ ?_
        refine AC_ret ?_
        refine ret_ok hdm (.tmp rfl rfl .nil) (.cons .d .nil) ?_
        simp_all [sameB]
      · skip
        refine AL_guard_f rfl rfl rfl rfl ?_
        refine AL_guard_f rfl rfl rfl rfl ?_
        refine AL_guard_f rfl rfl rfl rfl ?_
        refine AL_guard_f rfl rfl rfl rfl ?_
        refine AL_guard_f rfl rfl rfl rfl ?_
        refine AL_ev (Ev_pick rfl) rfl ?_
        refine AL_ev (Ev_assign) rfl ?_
        refine AL_nil ?_
        refine hK2 _ _ _ ?_
        refine AC_ret ?_
        refine ret_ok hdm (.tmp rfl rfl .nil) (.cons .d .nil) ?_
        simp_all [sameB]
    · skip
      refine AL_guard_f rfl rfl rfl rfl ?_
      refine AL_guard_f rfl rfl rfl rfl ?_
      refine AL_guard_f rfl rfl rfl rfl ?_
      refine AL_guard_f rfl rfl rfl rfl ?_
      refine AL_guard_f rfl rfl rfl rfl ?_
      refine AL_ev (Ev_pick rfl) rfl ?_
      refine AL_ev (Ev_move) rfl ?_
      refine AL_guard_f rfl rfl rfl rfl ?_
      refine AL_guard_f rfl rfl rfl rfl ?_
      refine AL_guard_f rfl rfl rfl rfl ?_
      refine AL_guard_f rfl rfl rfl rfl ?_
      refine AL_guard_f rfl rfl rfl rfl ?_
      refine AL_ev (Ev_pick rfl) rfl ?_
      refine AL_ev (Ev_assign) rfl ?_
      refine AL_nil ?_
      refine hK2 _ _ _ ?_
      refine AC_ret ?_
      refine ret_ok hdm (.tmp rfl rfl .nil) (.cons .d .nil) ?_
      simp_all [sameB]
  · skip
    refine AL_guard_f rfl rfl rfl rfl ?_
    refine AL_guard_f rfl rfl rfl rfl ?_
    refine AL_guard_f rfl rfl rfl rfl ?_
    refine AL_guard_f rfl rfl rfl rfl ?_
    refine AL_guard_f rfl rfl rfl rfl ?_
    refine AL_ev (Ev_pick rfl) rfl ?_
    refine AL_ev (Ev_move) rfl ?_
    refine AL_guard_f rfl rfl rfl rfl ?_
    refine AL_guard_f rfl rfl rfl rfl ?_
    refine AL_guard_f rfl rfl rfl rfl ?_
    refine AL_guard_f rfl rfl rfl rfl ?_
    refine AL_guard_f rfl rfl rfl rfl ?_
    refine AL_ev (Ev_pick rfl) rfl ?_
    refine AL_ev (Ev_move) rfl ?_
    refine AL_guard_f rfl rfl rfl rfl ?_
    refine AL_guard_f rfl rfl rfl rfl ?_
    refine AL_guard_f rfl rfl rfl rfl ?_
    refine AL_guard_f rfl rfl rfl rfl ?_
    refine AL_guard_f rfl rfl rfl rfl ?_
    refine AL_ev (Ev_pick rfl) rfl ?_
    refine AL_ev (Ev_assign) rfl ?_
    refine AL_nil ?_
    refine hK2 _ _ _ ?_
    refine AC_ret ?_
    refine ret_ok hdm (.tmp rfl rfl .nil) (.cons .d .nil) ?_
    simp_all [sameB]

set_option maxHeartbeats 1000000 in
set_option maxRecDepth 4000 in
theorem c_specSameTerm (t : T) : ∀ b : T, 0 = 0 → PCall Try.prog 32 [inj t, inj b] (· = [.c (.bool (sameB t b))]) := by
  induction t using T.ind with | h k s m ks ih => ?_
  rintro ⟨k2, s2, m2, ks2⟩ _
  refine PCall_of (n := 53) Try.func32 rfl rfl (Nat.le_of_ble_eq_true rfl) fun C hdm hT0 => ?_
  have hT := hT0
  refine AC_seq fun K1 hK1 => ?_
  refine AC_region ?_
  refine AL_box (Lay.st [.one, .one, .one, .one]) (nf rfl) rfl (by first | rfl | simp [Lay.len, Lay.lens]) _ rfl rfl ?_
  refine AL_box (Lay.st [.one, .one, .one, .one]) (nf rfl) rfl (by first | rfl | simp [Lay.len, Lay.lens]) _ rfl rfl ?_
  refine AL_ev (Ev_assign) rfl ?_
  refine AL_nil ?_
  refine hK1 _ _ _ ?_
  refine AC_seq fun K2 hK2 => ?_
  refine AC_seq fun K3 hK3 => ?_
  refine AC_region ?_
  first | refine AL_ev (Ev_fa_ptr rfl fa35_0 rfl rfl) rfl ?_ | refine AL_ev (Ev_fa_rp rfl fa35_0 rfl rfl) rfl ?_
  first | refine AL_ev (Ev_load_ptr rfl rfl rfl rfl rfl rfl ts3 ta3 rfl (fun _ => rfl)) rfl ?_ | refine AL_ev (Ev_load_rp rfl rfl rfl ts3 ta3 rfl (fun _ => rfl)) rfl ?_
  first | refine AL_ev (Ev_fa_ptr rfl fa35_0 rfl rfl) rfl ?_ | refine AL_ev (Ev_fa_rp rfl fa35_0 rfl rfl) rfl ?_
  first | refine AL_ev (Ev_load_ptr rfl rfl rfl rfl rfl rfl ts3 ta3 rfl (fun _ => rfl)) rfl ?_ | refine AL_ev (Ev_load_rp rfl rfl rfl ts3 ta3 rfl (fun _ => rfl)) rfl ?_
  refine AL_ev (Ev_neq rfl rfl) rfl ?_
  refine AL_ev (Ev_move) rfl ?_
  refine AL_bool 11 rfl (fun hg1 => ?_) (fun hg1 => ?_)
  · skip
    refine AL_guard_f rfl rfl rfl rfl ?_
    refine AL_guard_f rfl rfl rfl rfl ?_
    refine AL_guard_f rfl rfl rfl rfl ?_
    refine AL_guard_f rfl rfl rfl rfl ?_
    refine AL_guard_f rfl rfl rfl rfl ?_
    refine AL_ev (Ev_pick rfl) rfl ?_
    refine AL_ev (Ev_move) rfl ?_
    refine AL_guard_f rfl rfl rfl rfl ?_
    refine AL_guard_f rfl rfl rfl rfl ?_
    refine AL_guard_f rfl rfl rfl rfl ?_
    refine AL_guard_f rfl rfl rfl rfl ?_
    refine AL_guard_f rfl rfl rfl rfl ?_
    refine AL_ev (Ev_pick rfl) rfl ?_
    refine AL_ev (Ev_move) rfl ?_
    refine AL_guard_f rfl rfl rfl rfl ?_
    refine AL_guard_f rfl rfl rfl rfl ?_
    refine AL_guard_f rfl rfl rfl rfl ?_
    refine AL_guard_f rfl rfl rfl rfl ?_
    refine AL_guard_f rfl rfl rfl rfl ?_
    refine AL_guard_f rfl rfl rfl rfl ?_
    refine AL_guard_f rfl rfl rfl rfl ?_
    refine AL_ev (Ev_pick rfl) rfl ?_
    refine AL_nil ?_
    refine hK3 _ _ _ ?_
    refine AC_cond_t rfl ?_
    refine AC_seq fun K4 hK4 => ?_
    refine AC_region ?_
    refine AL_ev (Ev_assign) rfl ?_
    refine AL_nil ?_
    refine hK4 _ _ _ ?_
    refine AC_ret ?_
    refine ret_ok hdm (.tmp rfl rfl .nil) (.cons .d .nil) ?_
    simp_all [sameB]
  · skip
    refine AL_guard_t rfl rfl rfl ?_
    first | refine AL_ev (Ev_fa_ptr rfl fa35_1 rfl rfl) rfl ?_ | refine AL_ev (Ev_fa_rp rfl fa35_1 rfl rfl) rfl ?_
    refine AL_guard_t rfl rfl rfl ?_
    first | refine AL_ev (Ev_load_ptr rfl rfl rfl rfl rfl rfl ts9 ta9 rfl (fun _ => rfl)) rfl ?_ | refine AL_ev (Ev_load_rp rfl rfl rfl ts9 ta9 rfl (fun _ => rfl)) rfl ?_
    refine AL_guard_t rfl rfl rfl ?_
    first | refine AL_ev (Ev_fa_ptr rfl fa35_1 rfl rfl) rfl ?_ | refine AL_ev (Ev_fa_rp rfl fa35_1 rfl rfl) rfl ?_
    refine AL_guard_t rfl rfl rfl ?_
    first | refine AL_ev (Ev_load_ptr rfl rfl rfl rfl rfl rfl ts9 ta9 rfl (fun _ => rfl)) rfl ?_ | refine AL_ev (Ev_load_rp rfl rfl rfl ts9 ta9 rfl (fun _ => rfl)) rfl ?_
    refine AL_guard_t rfl rfl rfl ?_
    refine AL_ev (Ev_sneq rfl rfl) rfl ?_
    refine AL_ev (Ev_pick rfl) rfl ?_
    refine AL_ev (Ev_move) rfl ?_
    refine AL_bool 18 rfl (fun hg2 => ?_) (fun hg2 => ?_)
    · skip
      refine AL_guard_f rfl rfl rfl rfl ?_
      refine AL_guard_f rfl rfl rfl rfl ?_
      refine AL_guard_f rfl rfl rfl rfl ?_
      refine AL_guard_f rfl rfl rfl rfl ?_
      refine AL_guard_f rfl rfl rfl rfl ?_
      refine AL_ev (Ev_pick rfl) rfl ?_
      refine AL_ev (Ev_move) rfl ?_
      refine AL_guard_f rfl rfl rfl rfl ?_
      refine AL_guard_f rfl rfl rfl rfl ?_
      refine AL_guard_f rfl rfl rfl rfl ?_
      refine AL_guard_f rfl rfl rfl rfl ?_
      refine AL_guard_f rfl rfl rfl rfl ?_
      refine AL_guard_f rfl rfl rfl rfl ?_
      refine AL_guard_f rfl rfl rfl rfl ?_
      refine AL_ev (Ev_pick rfl) rfl ?_
      refine AL_nil ?_
      refine hK3 _ _ _ ?_
      refine AC_cond_t rfl ?_
      refine AC_seq fun K5 hK5 => ?_
      refine AC_region ?_
      refine AL_ev (Ev_assign) rfl ?_
      refine AL_nil ?_
      refine hK5 _ _ _ ?_
      refine AC_ret ?_
      refine ret_ok hdm (.tmp rfl rfl .nil) (.cons .d .nil) ?_
      simp_all [sameB]
    · skip
      refine AL_guard_t rfl rfl rfl ?_
      first | refine AL_ev (Ev_fa_ptr rfl fa35_2 rfl rfl) rfl ?_ | refine AL_ev (Ev_fa_rp rfl fa35_2 rfl rfl) rfl ?_
      refine AL_guard_t rfl rfl rfl ?_
      first | refine AL_ev (Ev_load_ptr rfl rfl rfl rfl rfl rfl ts3 ta3 rfl (fun _ => rfl)) rfl ?_ | refine AL_ev (Ev_load_rp rfl rfl rfl ts3 ta3 rfl (fun _ => rfl)) rfl ?_
      refine AL_guard_t rfl rfl rfl ?_
      first | refine AL_ev (Ev_fa_ptr rfl fa35_2 rfl rfl) rfl ?_ | refine AL_ev (Ev_fa_rp rfl fa35_2 rfl rfl) rfl ?_
      refine AL_guard_t rfl rfl rfl ?_
      first | refine AL_ev (Ev_load_ptr rfl rfl rfl rfl rfl rfl ts3 ta3 rfl (fun _ => rfl)) rfl ?_ | refine AL_ev (Ev_load_rp rfl rfl rfl ts3 ta3 rfl (fun _ => rfl)) rfl ?_
      refine AL_guard_t rfl rfl rfl ?_
      refine AL_ev (Ev_neq rfl rfl) rfl ?_
      refine AL_ev (Ev_pick rfl) rfl ?_
      refine AL_ev (Ev_move) rfl ?_
      refine AL_bool 25 rfl (fun hg3 => ?_) (fun hg3 => ?_)
      · skip
        refine AL_guard_f rfl rfl rfl rfl ?_
        refine AL_guard_f rfl rfl rfl rfl ?_
        refine AL_guard_f rfl rfl rfl rfl ?_
        refine AL_guard_f rfl rfl rfl rfl ?_
        refine AL_guard_f rfl rfl rfl rfl ?_
        refine AL_guard_f rfl rfl rfl rfl ?_
        refine AL_guard_f rfl rfl rfl rfl ?_
        refine AL_ev (Ev_pick rfl) rfl ?_
        refine AL_nil ?_
        refine hK3 _ _ _ ?_
        refine AC_cond_t rfl ?_
        refine AC_seq fun K6 hK6 => ?_
        refine AC_region ?_
        refine AL_ev (Ev_assign) rfl ?_
        refine AL_nil ?_
        refine hK6 _ _ _ ?_
        refine AC_ret ?_
        refine ret_ok hdm (.tmp rfl rfl .nil) (.cons .d .nil) ?_
        simp_all [sameB]
      · skip
        refine AL_guard_t rfl rfl rfl ?_
        first | refine AL_ev (Ev_fa_ptr rfl fa35_3 rfl rfl) rfl ?_ | refine AL_ev (Ev_fa_rp rfl fa35_3 rfl rfl) rfl ?_
        refine AL_guard_t rfl rfl rfl ?_
        first | refine AL_ev (Ev_load_ptr rfl rfl rfl rfl rfl rfl ts24 ta24 rfl (fun _ => rfl)) rfl ?_ | refine AL_ev (Ev_load_rp rfl rfl rfl ts24 ta24 rfl (fun _ => rfl)) rfl ?_
        refine AL_guard_t rfl rfl rfl ?_
        first | refine AL_lim (x := (Operand.tmp 27)) rfl fun hl1 => ?_ | refine AL_limB (x := (Operand.tmp 27)) rfl rfl (by first | rfl | (simp; done) | (simp; omega)) fun hl1 => ?_ | have hl1 := True.intro
        try simp only [injs_length, ints_length, strs_length, injCs_length, u8s_length, List.length_map] at hl1
        first | refine AL_ev (Ev_len_injs te24 rfl) rfl ?_ | refine AL_ev (Ev_len_sl te24 rfl) rfl ?_ | refine AL_ev (Ev_len_ref te24 rfl) rfl ?_ | refine AL_ev (Ev_len_nil te24 rfl) rfl ?_ | refine AL_ev (Ev_len_c te24 rfl) rfl ?_
        refine AL_guard_t rfl rfl rfl ?_
        first | refine AL_ev (Ev_fa_ptr rfl fa35_3 rfl rfl) rfl ?_ | refine AL_ev (Ev_fa_rp rfl fa35_3 rfl rfl) rfl ?_
        refine AL_guard_t rfl rfl rfl ?_
        first | refine AL_ev (Ev_load_ptr rfl rfl rfl rfl rfl rfl ts24 ta24 rfl (fun _ => rfl)) rfl ?_ | refine AL_ev (Ev_load_rp rfl rfl rfl ts24 ta24 rfl (fun _ => rfl)) rfl ?_
        refine AL_guard_t rfl rfl rfl ?_
        first | refine AL_lim (x := (Operand.tmp 30)) rfl fun hl2 => ?_ | refine AL_limB (x := (Operand.tmp 30)) rfl rfl (by first | rfl | (simp; done) | (simp; omega)) fun hl2 => ?_ | have hl2 := True.intro
        try simp only [injs_length, ints_length, strs_length, injCs_length, u8s_length, List.length_map] at hl2
        first | refine AL_ev (Ev_len_injs te24 rfl) rfl ?_ | refine AL_ev (Ev_len_sl te24 rfl) rfl ?_ | refine AL_ev (Ev_len_ref te24 rfl) rfl ?_ | refine AL_ev (Ev_len_nil te24 rfl) rfl ?_ | refine AL_ev (Ev_len_c te24 rfl) rfl ?_
        refine AL_guard_t rfl rfl rfl ?_
        refine AL_ev (Ev_neq rfl rfl) rfl ?_
        refine AL_ev (Ev_pick rfl) rfl ?_
        refine AL_nil ?_
        refine hK3 _ _ _ ?_
        refine AC_cond rfl (fun hc4 => ?_) (fun hc4 => ?_)
        · skip
          have hne : ¬ sameBL ks ks2 = true := fun h => by have := sameBL_len h; simp [this] at hc4
          refine AC_seq fun K7 hK7 => ?_
          refine AC_region ?_
          refine AL_ev (Ev_assign) rfl ?_
          refine AL_nil ?_
          refine hK7 _ _ _ ?_
          refine AC_ret ?_
          refine ret_ok hdm (.tmp rfl rfl .nil) (.cons .d .nil) ?_
          rw [sameB, Bool.eq_false_iff.2 hne, Bool.and_false]
        · skip
          have h9 : (ks.length : Int) = ks2.length := by simpa using hc4
          have hln : ks.length = ks2.length := by omega
          have e1 : k = k2 := by simpa using hg1
          have e2 : s = s2 := by simpa using hg2
          have e3 : m = m2 := by simpa using hg3
          refine AC_skip ?_
          refine hK2 _ _ _ ?_
          refine AC_seq fun K8 hK8 => ?_
          refine AC_seq fun K9 hK9 => ?_
          refine AC_region ?_
          refine AL_ev (Ev_assign) rfl ?_
          refine AL_nil ?_
          refine hK9 _ _ _ ?_
          refine AC_block ?_
          refine AC_loopS [] (Nat) (fun j => [(5, i64 j), (2, .d (.rp (Lay.st [.one, .one, .one, .one]) (inj (.mk k s m ks)) [])), (3, .d (.rp (Lay.st [.one, .one, .one, .one]) (inj (.mk k2 s2 m2 ks2)) []))]) (fun j => []) (fun st => ks.length - st) (fun j => j ≤ ks.length ∧ (sameBL ks ks2 = sameBL (ks.drop j) (ks2.drop j))) (0) ?_ ?_ ?_
          · skip
            exact enterS [] rfl rfl BxTo_nil (SlTo_cons (by first | exact .rd .d | exact Vw_int (by first | rfl | assumption | omega | (simp; done) | (simp; omega)) | exact Vw_c (by first | rfl | (simp; done) | simp_all) | exact .any) (SlTo_cons (by first | exact .rd (.ptr (srcFree rfl) rfl rfl rfl .d) | exact .rd .d) (SlTo_cons (by first | exact .rd (.ptr (srcFree rfl) rfl rfl rfl .d) | exact .rd .d) SlTo_nil)))
          · skip
            exact ⟨Nat.zero_le _, by simp⟩
          rintro j ⟨hj, hI⟩
          show AC _ _ _ _ _ (FS [] _ [(5, i64 j), (2, .d (.rp (Lay.st [.one, .one, .one, .one]) (inj (.mk k s m ks)) [])), (3, .d (.rp (Lay.st [.one, .one, .one, .one]) (inj (.mk k2 s2 m2 ks2)) []))]) []
          refine AC_seq fun K10 hK10 => ?_
          refine AC_seq fun K11 hK11 => ?_
          refine AC_region ?_
          refine AL_ev (Ev_move) rfl ?_
          first | refine AL_ev (Ev_fa_ptr rfl fa35_3 rfl rfl) rfl ?_ | refine AL_ev (Ev_fa_rp rfl fa35_3 rfl rfl) rfl ?_
          first | refine AL_ev (Ev_load_ptr rfl rfl rfl rfl rfl rfl ts24 ta24 rfl (fun _ => rfl)) rfl ?_ | refine AL_ev (Ev_load_rp rfl rfl rfl ts24 ta24 rfl (fun _ => rfl)) rfl ?_
          first | refine AL_lim (x := (Operand.tmp 36)) rfl fun hl3 => ?_ | refine AL_limB (x := (Operand.tmp 36)) rfl rfl (by first | rfl | (simp; done) | (simp; omega)) fun hl3 => ?_ | have hl3 := True.intro
          try simp only [injs_length, ints_length, strs_length, injCs_length, u8s_length, List.length_map] at hl3
          first | refine AL_ev (Ev_len_injs te24 rfl) rfl ?_ | refine AL_ev (Ev_len_sl te24 rfl) rfl ?_ | refine AL_ev (Ev_len_ref te24 rfl) rfl ?_ | refine AL_ev (Ev_len_nil te24 rfl) rfl ?_ | refine AL_ev (Ev_len_c te24 rfl) rfl ?_
          refine AL_ev (Ev_lss rfl rfl) rfl ?_
          refine AL_nil ?_
          refine hK11 _ _ _ ?_
          refine AC_cond rfl (fun hc5 => ?_) (fun hc5 => ?_)
          · skip
            have hlt : j < ks.length := by simpa using hc5
            obtain ⟨u, hu⟩ : ∃ x, ks[j]? = some x := ⟨_, List.getElem?_eq_getElem hlt⟩
            have hu2 := injs_get hu
            have hdr := drop_get hu
            obtain ⟨v, hv⟩ : ∃ x, ks2[j]? = some x := ⟨_, List.getElem?_eq_getElem (by omega)⟩
            have hv2 := injs_get hv
            have hdr2 := drop_get hv
            rw [hdr, hdr2, sameBL] at hI
            refine AC_skip ?_
            refine hK10 _ _ _ ?_
            refine AC_seq fun K12 hK12 => ?_
            refine AC_block ?_
            refine AC_seq fun K13 hK13 => ?_
            refine AC_draw hT follows [0, 1, 2, 3, 4, 5, 6, 7, 8, 9, 10, 11] (by kernel_rfl) ?_
            first | refine DT_ev rfl (EA_fa_ptr rfl fa35_3 rfl rfl) rfl ?_ | refine DT_ev rfl (EA_fa_rp rfl fa35_3 rfl rfl) rfl ?_
            first | refine DT_ev rfl (EA_load_ptr rfl rfl rfl rfl rfl rfl ts24 ta24 rfl (fun _ => rfl)) rfl ?_ | refine DT_ev rfl (EA_load_rp rfl rfl rfl ts24 ta24 rfl (fun _ => rfl)) rfl ?_
            refine DT_ev rfl (EA_move) rfl ?_
            first | refine DT_ev rfl (EA_ix_sl rfl rfl te24 ts35 (by omega) (by assumption)) rfl ?_ | refine DT_ev rfl (EA_ix_ref rfl rfl te24 ts35 (by omega) (by first | omega | (simp; omega))) rfl ?_
            first | refine DT_ev rfl (EA_load_ptr rfl rfl rfl rfl rfl rfl ts35 ta35 (by first | rfl | assumption | simp) (by intro h; cases h)) rfl ?_ | refine DT_ev rfl (EA_load_rp rfl rfl rfl ts35 ta35 (by first | rfl | assumption | simp) (by intro h; cases h)) rfl ?_
            first | refine DT_ev rfl (EA_fa_ptr rfl fa35_3 rfl rfl) rfl ?_ | refine DT_ev rfl (EA_fa_rp rfl fa35_3 rfl rfl) rfl ?_
            first | refine DT_ev rfl (EA_load_ptr rfl rfl rfl rfl rfl rfl ts24 ta24 rfl (fun _ => rfl)) rfl ?_ | refine DT_ev rfl (EA_load_rp rfl rfl rfl ts24 ta24 rfl (fun _ => rfl)) rfl ?_
            refine DT_ev rfl (EA_move) rfl ?_
            first | refine DT_ev rfl (EA_ix_sl rfl rfl te24 ts35 (by omega) (by assumption)) rfl ?_ | refine DT_ev rfl (EA_ix_ref rfl rfl te24 ts35 (by omega) (by first | omega | (simp; omega))) rfl ?_
            first | refine DT_ev rfl (EA_load_ptr rfl rfl rfl rfl rfl rfl ts35 ta35 (by first | rfl | assumption | simp) (by intro h; cases h)) rfl ?_ | refine DT_ev rfl (EA_load_rp rfl rfl rfl ts35 ta35 (by first | rfl | assumption | simp) (by intro h; cases h)) rfl ?_
            refine DT_fcall0 rfl rfl cl32 (ih u (List.mem_of_getElem? hu) v rfl) rfl rfl ?_
            refine DT_ev rfl (EA_not rfl) rfl ?_
            refine DTi.nil ?_
            refine hK13 _ _ _ ?_
            refine AC_cond rfl (fun hc6 => ?_) (fun hc6 => ?_)
            · skip
              refine AC_seq fun K14 hK14 => ?_
              refine AC_region ?_
              refine AL_ev (Ev_assign) rfl ?_
              refine AL_nil ?_
              refine hK14 _ _ _ ?_
              refine AC_ret ?_
              refine ret_ok hdm (.tmp rfl rfl .nil) (.cons .d .nil) ?_
              simp only [sameB, hI, show sameB u v = false by simpa using hc6, Bool.false_and, Bool.and_false]
            · skip
              refine AC_skip ?_
              refine hK12 _ _ _ ?_
              refine AC_region ?_
              refine AL_ev (Ev_move) rfl ?_
              first | refine AL_ev (Ev_add rfl rfl _ (wrap_id (by first | omega | (simp; omega)) (by first | omega | (simp; omega)))) rfl ?_ | refine AL_ev (Ev_add rfl rfl _ rfl) rfl ?_
              refine AL_ev (Ev_assign) rfl ?_
              refine AL_nil ?_
              refine closeS (j + 1) [] rfl rfl (by show ks.length - (j + 1) < ks.length - j; omega) ⟨hlt, ?_⟩ BxTo_nil (SlTo_cons (by first | exact .rd .d | exact Vw_int (by first | rfl | assumption | omega | (simp; done) | (simp; omega)) | exact Vw_c (by first | rfl | (simp; done) | simp_all) | exact .any) (SlTo_cons (by first | exact .rd (.ptr (srcFree rfl) rfl rfl rfl .d) | exact .rd .d) (SlTo_cons (by first | exact .rd (.ptr (srcFree rfl) rfl rfl rfl .d) | exact .rd .d) SlTo_nil)))
              rw [hI, show sameB u v = true by simpa using hc6, Bool.true_and]
          · skip
            have hj2 : j = ks.length := by
              have : ¬ j < ks.length := by simpa using hc5
              omega
            subst hj2
            rw [List.drop_length] at hI
            refine AC_exit ?_
            refine hK8 _ _ _ ?_
            refine AC_seq fun K15 hK15 => ?_
            refine AC_region ?_
            refine AL_ev (Ev_assign) rfl ?_
            refine AL_nil ?_
            refine hK15 _ _ _ ?_
            refine AC_ret ?_
            refine ret_ok hdm (.tmp rfl rfl .nil) (.cons .d .nil) ?_
            simp only [sameB, hI, List.drop_eq_nil_of_le (show ks2.length ≤ ks.length by omega), e1, e2, e3]; simp [sameBL]

set_option maxHeartbeats 4000000 in
set_option maxRecDepth 4000 in
theorem c_compact (pool : List (D × D)) (ps : List TD) (hel : ∀ p ∈ ps, PL pool p) (hl : ps.length ≤ 1099511627776) : HCallR Try.prog 47 pool [.ref LT 0 0 (dsP ps).length, .d (.fn 48 [])] [⟨35, LT, (dsP ps).map V.d⟩] 1 (fun ys : List TD => ys = dd ps) (fun ys : List TD => [.ref LT 0 0 ys.length]) (fun ys : List TD => [⟨35, LT, (dsP ys).map V.d⟩]) := by
  have hdl := dsP_length ps
  refine HCallR_of (n := 66) Try.func47 rfl rfl (Nat.le_of_ble_eq_true rfl) (Nat.le_of_ble_eq_true rfl) fun C0 o hT hP => ?_
  refine AC_seq fun K1 hK1 => ?_
  refine AC_region ?_
  refine AL_ev (Ev_assign) rfl ?_
  refine AL_nil ?_
  refine hK1 _ _ _ ?_
  refine AC_seq fun K2 hK2 => ?_
  refine AC_seq fun K3 hK3 => ?_
  refine AC_region ?_
  refine AL_ev (Ev_move) rfl ?_
  first | refine AL_lim (x := (Operand.tmp 8)) rfl fun hl1 => ?_ | refine AL_limB (x := (Operand.tmp 8)) rfl rfl (by first | rfl | (simp; done) | (simp; omega)) fun hl1 => ?_ | have hl1 := True.intro
  try simp only [injs_length, ints_length, strs_length, injCs_length, u8s_length, List.length_map] at hl1
  first | refine AL_ev (Ev_len_injs te24 rfl) rfl ?_ | refine AL_ev (Ev_len_sl te24 rfl) rfl ?_ | refine AL_ev (Ev_len_ref te24 rfl) rfl ?_ | refine AL_ev (Ev_len_nil te24 rfl) rfl ?_ | refine AL_ev (Ev_len_c te24 rfl) rfl ?_
  refine AL_ev (Ev_lss rfl rfl) rfl ?_
  refine AL_nil ?_
  refine hK3 _ _ _ ?_
  refine AC_cond rfl (fun hc1 => ?_) (fun hc1 => ?_)
  · skip
    have h1 : ps.length < 2 := by have := of_decide_eq_true hc1; omega
    refine AC_seq fun K4 hK4 => ?_
    refine AC_region ?_
    refine AL_ev (Ev_move) rfl ?_
    refine AL_ev (Ev_assign) rfl ?_
    refine AL_nil ?_
    refine hK4 _ _ _ ?_
    refine AC_ret ?_
    exact retr_ok (ps) ((dd_short h1).symm) [0] (CExt.refl _) (.tmp rfl rfl .nil) rfl rfl (BxF_stay rfl rfl rfl rfl rfl (VxL_d _) rfl BxF_nil) (Nat.le_refl _) (.cons (Vx_refe rfl (by simp)) .nil)
  · skip
    have h1 : 2 ≤ ps.length := by have := of_decide_eq_false hc1; omega
    refine AC_skip ?_
    refine hK2 _ _ _ ?_
    refine AC_seq fun K5 hK5 => ?_
    refine AC_seq fun K6 hK6 => ?_
    refine AC_region ?_
    refine AL_ev (Ev_assign) rfl ?_
    refine AL_nil ?_
    refine hK6 _ _ _ ?_
    refine AC_block ?_
    refine AC_loopS [1] (Nat × List TD) (fun ⟨i, cur⟩ => [(5, i64 ((i : Nat) : Int)), (0, .ref LT 0 0 (dsP cur).length)]) (fun ⟨i, cur⟩ => [some ⟨⟨35, some (o 0)⟩, LT, (dsP cur).map V.d⟩]) (fun st => ps.length - st.1) (fun ⟨i, cur⟩ => (cur = ps ∧ 1 ≤ i ∧ i ≤ ps.length ∧ ∀ y, ps[i - 1]? = some y → dd ps = ps.take i ++ ddQ y.1 (ps.drop i))) ((1, ps)) ?_ ?_ ?_
    · skip
      exact enterS [some 0] rfl rfl (BxTo_some rfl rfl rfl rfl (by first | exact .nil | exact VwL_dd (by first | rfl | simp) | exact VwL_app (by first | rfl | simp) | exact VwL_of (by first | rfl | simp)) BxTo_nil) (SlTo_cons (by first | exact .rd .d | exact Vw_int (by first | rfl | assumption | omega | (simp; done) | (simp; omega)) | exact Vw_c (by first | rfl | (simp; done) | simp_all) | exact .any) (SlTo_cons (Vw_refe rfl (by first | rfl | (rw [dsP_length, dsP_length]; omega))) (SlTo_cons (by first | exact .rd .d | exact .any) SlTo_nil)))
    · skip
      exact ⟨rfl, Nat.le_refl _, by omega, fun y hy => dd_start hy⟩
    rintro ⟨i, cur⟩ ⟨hcur, hi1, hiN, hdd⟩
    show AC _ _ _ _ _ (FS [1] _ [(5, i64 ((i : Nat) : Int)), (0, .ref LT 0 0 (dsP cur).length)]) [some ⟨⟨35, some (o 0)⟩, LT, (dsP cur).map V.d⟩]
    have hcl : cur.length = ps.length := by rw [hcur]
    have hdc : (dsP cur).length = ps.length := by rw [dsP_length, hcl]
    refine AC_seq fun K7 hK7 => ?_
    refine AC_seq fun K8 hK8 => ?_
    refine AC_region ?_
    refine AL_ev (Ev_move) rfl ?_
    refine AL_ev (Ev_move) rfl ?_
    first | refine AL_lim (x := (Operand.tmp 13)) rfl fun hl2 => ?_ | refine AL_limB (x := (Operand.tmp 13)) rfl rfl (by first | rfl | (simp; done) | (simp; omega)) fun hl2 => ?_ | have hl2 := True.intro
    try simp only [injs_length, ints_length, strs_length, injCs_length, u8s_length, List.length_map] at hl2
    first | refine AL_ev (Ev_len_injs te24 rfl) rfl ?_ | refine AL_ev (Ev_len_sl te24 rfl) rfl ?_ | refine AL_ev (Ev_len_ref te24 rfl) rfl ?_ | refine AL_ev (Ev_len_nil te24 rfl) rfl ?_ | refine AL_ev (Ev_len_c te24 rfl) rfl ?_
    refine AL_ev (Ev_lss rfl rfl) rfl ?_
    refine AL_nil ?_
    refine hK8 _ _ _ ?_
    refine AC_cond rfl (fun hc2 => ?_) (fun hc2 => ?_)
    · skip
      have h2 : i < ps.length := by have := of_decide_eq_true hc2; omega
      obtain ⟨x, hx⟩ : ∃ x, ps[i]? = some x := ⟨_, List.getElem?_eq_getElem h2⟩
      obtain ⟨y, hy⟩ : ∃ y, ps[i - 1]? = some y := ⟨_, List.getElem?_eq_getElem (by omega)⟩
      have hpx := hel x (List.mem_of_getElem? hx)
      have hpy := hel y (List.mem_of_getElem? hy)
      have hxl : (V.d x.2).len? = Lay.len LT := hpx.len
      have hxa : (V.d x.2).isAgg = true := hpx.ag
      have hyl : (V.d y.2).len? = Lay.len LT := hpy.len
      have hya : (V.d y.2).isAgg = true := hpy.ag
      have hesX : ((dsP cur).map V.d)[0 + ((i : Nat) : Int).toNat]? = some (.d x.2) := by rw [show 0 + ((i : Nat) : Int).toNat = i by omega, hcur]; exact dsP_get hx
      have hesY : ((dsP cur).map V.d)[0 + (((i : Nat) : Int) - 1).toNat]? = some (.d y.2) := by rw [show 0 + (((i : Nat) : Int) - 1).toNat = i - 1 by omega, hcur]; exact dsP_get hy
      refine AC_skip ?_
      refine hK7 _ _ _ ?_
      refine AC_seq fun K9 hK9 => ?_
      refine AC_block ?_
      refine AC_seq fun K10 hK10 => ?_
      refine AC_draw hT follows [0, 1, 2, 3, 4, 5, 6, 7, 8, 9, 10] (by kernel_rfl) ?_
      refine DT_ev rfl (EA_move) rfl ?_
      refine DT_ev rfl (EA_move) rfl ?_
      refine DT_ev rfl (EA_move) rfl ?_
      first | refine DT_ev rfl (EA_ix_sl rfl rfl te24 ts35 (by omega) (by assumption)) rfl ?_ | refine DT_ev rfl (EA_ix_ref rfl rfl te24 ts35 (by omega) (by first | omega | (simp; omega))) rfl ?_
      first | refine DT_ev rfl (EA_load_ptr rfl rfl rfl hesZ rfl rfl ts35 ta35 (by first | rfl | assumption | simp) (by intro h; cases h)) rfl ?_ | refine DT_ev rfl (EA_load_ptr rfl rfl rfl hesY rfl rfl ts35 ta35 (by first | rfl | assumption | simp) (by intro h; cases h)) rfl ?_ | refine DT_ev rfl (EA_load_ptr rfl rfl rfl hesX rfl rfl ts35 ta35 (by first | rfl | assumption | simp) (by intro h; cases h)) rfl ?_ | refine DT_ev rfl (EA_load_ptr rfl rfl rfl rfl rfl rfl ts35 ta35 (by first | rfl | assumption | simp) (by intro h; cases h)) rfl ?_ | refine DT_ev rfl (EA_load_rp rfl rfl rfl ts35 ta35 (by first | rfl | assumption | simp) (by intro h; cases h)) rfl ?_
      refine DT_ev rfl (EA_move) rfl ?_
      refine DT_ev rfl (EA_move) rfl ?_
      first | refine DT_ev rfl (EA_sub rfl rfl _ (wrap_id (by first | omega | (simp; omega)) (by first | omega | (simp; omega)))) rfl ?_ | refine DT_ev rfl (EA_sub rfl rfl _ rfl) rfl ?_
      first | refine DT_ev rfl (EA_ix_sl rfl rfl te24 ts35 (by omega) (by assumption)) rfl ?_ | refine DT_ev rfl (EA_ix_ref rfl rfl te24 ts35 (by omega) (by first | omega | (simp; omega))) rfl ?_
      first | refine DT_ev rfl (EA_load_ptr rfl rfl rfl hesZ rfl rfl ts35 ta35 (by first | rfl | assumption | simp) (by intro h; cases h)) rfl ?_ | refine DT_ev rfl (EA_load_ptr rfl rfl rfl hesY rfl rfl ts35 ta35 (by first | rfl | assumption | simp) (by intro h; cases h)) rfl ?_ | refine DT_ev rfl (EA_load_ptr rfl rfl rfl hesX rfl rfl ts35 ta35 (by first | rfl | assumption | simp) (by intro h; cases h)) rfl ?_ | refine DT_ev rfl (EA_load_ptr rfl rfl rfl rfl rfl rfl ts35 ta35 (by first | rfl | assumption | simp) (by intro h; cases h)) rfl ?_ | refine DT_ev rfl (EA_load_rp rfl rfl rfl ts35 ta35 (by first | rfl | assumption | simp) (by intro h; cases h)) rfl ?_
      refine DT_ccall hT hP rfl rfl cl48 (c_sameTerm x.1 y.1 rfl) (.cons hpx.v (.cons hpy.v .nil)) rfl (by kernel_rfl) ?_
      refine DTi.nil ?_
      refine hK10 _ _ _ ?_
      refine AC_cond rfl (fun hc3 => ?_) (fun hc3 => ?_)
      · skip
        refine AC_seq fun K11 hK11 => ?_
        refine AC_region ?_
        refine AL_ev (Ev_move) rfl ?_
        refine AL_ev (Ev_move) rfl ?_
        first | refine AL_ev (Ev_slice_sl rfl te24 ts35 rfl rfl (by omega) (by first | omega | (simp; done) | (simp; omega)) (by first | omega | (simp; done) | (simp; omega))) rfl ?_ | refine AL_ev (Ev_slice_ref rfl te24 ts35 rfl rfl (by omega) (by omega) (by omega)) rfl ?_
        refine AL_ev (Ev_assign) rfl ?_
        refine AL_nil ?_
        refine hK11 _ _ _ ?_
        refine AC_seq fun K12 hK12 => ?_
        refine AC_seq fun K13 hK13 => ?_
        refine AC_region ?_
        refine AL_ev (Ev_assign) rfl ?_
        refine AL_nil ?_
        refine hK13 _ _ _ ?_
        refine AC_block ?_
        refine AC_loopS [1] (Nat × List TD × List TD) (fun ⟨k2, kp, cur2⟩ => [(7, i64 ((k2 : Nat) : Int)), (5, i64 ((kp.length : Nat) : Int)), (0, .ref LT 0 0 (dsP cur2).length), (6, .ref LT 0 i (ps.length - i))]) (fun ⟨k2, kp, cur2⟩ => [some ⟨⟨35, some (o 0)⟩, LT, (dsP cur2).map V.d⟩]) (fun st => (ps.length - i) - st.1) (fun ⟨k2, kp, cur2⟩ => (1 ≤ k2 ∧ i + k2 ≤ ps.length ∧ 1 ≤ kp.length ∧ kp.length + 1 ≤ i + k2 ∧ cur2 = kp ++ ps.drop kp.length ∧ ∀ y, ps[i + k2 - 1]? = some y → dd ps = kp ++ ddQ y.1 (ps.drop (i + k2)))) ((1, ps.take i, cur)) ?_ ?_ ?_
        · skip
          exact enterS [some 0] rfl rfl (BxTo_some rfl rfl rfl rfl (by first | exact .nil | exact VwL_dd (by first | rfl | simp) | exact VwL_app (by first | rfl | simp) | exact VwL_of (by first | rfl | simp)) BxTo_nil) (SlTo_cons (by first | exact .rd .d | exact Vw_int (by first | rfl | assumption | omega | (simp; done) | (simp; omega)) | exact Vw_c (by first | rfl | (simp; done) | simp_all) | exact .any) (SlTo_cons (by first | exact .rd .d | exact Vw_int (by first | rfl | assumption | omega | (simp; done) | (simp; omega)) | exact Vw_c (by first | rfl | (simp; done) | simp_all) | exact .any) (SlTo_cons (Vw_refe rfl (by first | rfl | (rw [dsP_length, dsP_length]; omega))) (SlTo_cons (Vw_refo rfl (by first | rfl | omega | (simp; omega)) (by first | rfl | omega | (simp; omega))) (SlTo_cons (by first | exact .rd .d | exact .any) SlTo_nil)))))
        · skip
          refine ⟨Nat.le_refl _, by omega, by rw [List.length_take]; omega, by rw [List.length_take]; omega, by rw [hcur, List.length_take, Nat.min_eq_left (by omega), List.take_append_drop], fun z hz => ?_⟩
          rw [Nat.add_sub_cancel, hx] at hz
          injection hz with hz
          subst hz
          rw [hdd y hy, ddQ_get _ hx, if_pos ((sameB_iff _ _).1 hc3)]
        rintro ⟨k2, kp, cur2⟩ ⟨hk1, hkN, hp1, hpk, hcur2, hdk⟩
        show AC _ _ _ _ _ (FS [1] _ [(7, i64 ((k2 : Nat) : Int)), (5, i64 ((kp.length : Nat) : Int)), (0, .ref LT 0 0 (dsP cur2).length), (6, .ref LT 0 i (ps.length - i))]) [some ⟨⟨35, some (o 0)⟩, LT, (dsP cur2).map V.d⟩]
        have hcl : cur2.length = ps.length := by rw [hcur2, List.length_append, List.length_drop]; omega
        have hdc2 : (dsP cur2).length = ps.length := by rw [dsP_length, hcl]
        refine AC_seq fun K14 hK14 => ?_
        refine AC_seq fun K15 hK15 => ?_
        refine AC_region ?_
        refine AL_ev (Ev_move) rfl ?_
        refine AL_ev (Ev_move) rfl ?_
        first | refine AL_lim (x := (Operand.tmp 33)) rfl fun hl3 => ?_ | refine AL_limB (x := (Operand.tmp 33)) rfl rfl (by first | rfl | (simp; done) | (simp; omega)) fun hl3 => ?_ | have hl3 := True.intro
        try simp only [injs_length, ints_length, strs_length, injCs_length, u8s_length, List.length_map] at hl3
        first | refine AL_ev (Ev_len_injs te24 rfl) rfl ?_ | refine AL_ev (Ev_len_sl te24 rfl) rfl ?_ | refine AL_ev (Ev_len_ref te24 rfl) rfl ?_ | refine AL_ev (Ev_len_nil te24 rfl) rfl ?_ | refine AL_ev (Ev_len_c te24 rfl) rfl ?_
        refine AL_ev (Ev_lss rfl rfl) rfl ?_
        refine AL_nil ?_
        refine hK15 _ _ _ ?_
        refine AC_cond rfl (fun hc4 => ?_) (fun hc4 => ?_)
        · skip
          have h4 : i + k2 < ps.length := by have := of_decide_eq_true hc4; omega
          obtain ⟨x, hx⟩ : ∃ x, ps[i + k2]? = some x := ⟨_, List.getElem?_eq_getElem h4⟩
          obtain ⟨y, hy⟩ : ∃ y, ps[i + k2 - 1]? = some y := ⟨_, List.getElem?_eq_getElem (by omega)⟩
          have hpx := hel x (List.mem_of_getElem? hx)
          have hpy := hel y (List.mem_of_getElem? hy)
          have hxl : (V.d x.2).len? = Lay.len LT := hpx.len
          have hxa : (V.d x.2).isAgg = true := hpx.ag
          have hyl : (V.d y.2).len? = Lay.len LT := hpy.len
          have hya : (V.d y.2).isAgg = true := hpy.ag
          have hgt : ∀ j, kp.length ≤ j → cur2[j]? = ps[j]? := fun j hj => by rw [hcur2, List.getElem?_append_right hj, List.getElem?_drop]; congr 1; omega
          have hesX : ((dsP cur2).map V.d)[i + ((k2 : Nat) : Int).toNat]? = some (.d x.2) := by rw [show i + ((k2 : Nat) : Int).toNat = i + k2 by omega]; exact dsP_get (by rw [hgt _ (by omega)]; exact hx)
          have hesY : ((dsP cur2).map V.d)[i + (((k2 : Nat) : Int) - 1).toNat]? = some (.d y.2) := by rw [show i + (((k2 : Nat) : Int) - 1).toNat = i + k2 - 1 by omega]; exact dsP_get (by rw [hgt _ (by omega)]; exact hy)
          obtain ⟨x2, hx2⟩ : ∃ x2, ps[kp.length]? = some x2 := ⟨_, List.getElem?_eq_getElem (by omega)⟩
          have hkl : kp.length < cur2.length := by omega
          have hx2l : (V.d x2.2).len? = Lay.len LT := (hel x2 (List.mem_of_getElem? hx2)).len
          have hesZ : ((dsP cur2).map V.d)[0 + ((kp.length : Nat) : Int).toNat]? = some (.d x2.2) := by rw [show 0 + ((kp.length : Nat) : Int).toNat = kp.length by omega]; exact dsP_get (by rw [hgt _ (Nat.le_refl _)]; exact hx2)
          refine AC_skip ?_
          refine hK14 _ _ _ ?_
          refine AC_seq fun K16 hK16 => ?_
          refine AC_block ?_
          refine AC_seq fun K17 hK17 => ?_
          refine AC_draw hT follows [0, 1, 2, 3, 4, 5, 6, 7, 8, 9, 10, 11] (by kernel_rfl) ?_
          refine DT_ev rfl (EA_move) rfl ?_
          refine DT_ev rfl (EA_move) rfl ?_
          refine DT_ev rfl (EA_move) rfl ?_
          first | refine DT_ev rfl (EA_ix_sl rfl rfl te24 ts35 (by omega) (by assumption)) rfl ?_ | refine DT_ev rfl (EA_ix_ref rfl rfl te24 ts35 (by omega) (by first | omega | (simp; omega))) rfl ?_
          first | refine DT_ev rfl (EA_load_ptr rfl rfl rfl hesZ rfl rfl ts35 ta35 (by first | rfl | assumption | simp) (by intro h; cases h)) rfl ?_ | refine DT_ev rfl (EA_load_ptr rfl rfl rfl hesY rfl rfl ts35 ta35 (by first | rfl | assumption | simp) (by intro h; cases h)) rfl ?_ | refine DT_ev rfl (EA_load_ptr rfl rfl rfl hesX rfl rfl ts35 ta35 (by first | rfl | assumption | simp) (by intro h; cases h)) rfl ?_ | refine DT_ev rfl (EA_load_ptr rfl rfl rfl rfl rfl rfl ts35 ta35 (by first | rfl | assumption | simp) (by intro h; cases h)) rfl ?_ | refine DT_ev rfl (EA_load_rp rfl rfl rfl ts35 ta35 (by first | rfl | assumption | simp) (by intro h; cases h)) rfl ?_
          refine DT_ev rfl (EA_move) rfl ?_
          refine DT_ev rfl (EA_move) rfl ?_
          first | refine DT_ev rfl (EA_sub rfl rfl _ (wrap_id (by first | omega | (simp; omega)) (by first | omega | (simp; omega)))) rfl ?_ | refine DT_ev rfl (EA_sub rfl rfl _ rfl) rfl ?_
          first | refine DT_ev rfl (EA_ix_sl rfl rfl te24 ts35 (by omega) (by assumption)) rfl ?_ | refine DT_ev rfl (EA_ix_ref rfl rfl te24 ts35 (by omega) (by first | omega | (simp; omega))) rfl ?_
          first | refine DT_ev rfl (EA_load_ptr rfl rfl rfl hesZ rfl rfl ts35 ta35 (by first | rfl | assumption | simp) (by intro h; cases h)) rfl ?_ | refine DT_ev rfl (EA_load_ptr rfl rfl rfl hesY rfl rfl ts35 ta35 (by first | rfl | assumption | simp) (by intro h; cases h)) rfl ?_ | refine DT_ev rfl (EA_load_ptr rfl rfl rfl hesX rfl rfl ts35 ta35 (by first | rfl | assumption | simp) (by intro h; cases h)) rfl ?_ | refine DT_ev rfl (EA_load_ptr rfl rfl rfl rfl rfl rfl ts35 ta35 (by first | rfl | assumption | simp) (by intro h; cases h)) rfl ?_ | refine DT_ev rfl (EA_load_rp rfl rfl rfl ts35 ta35 (by first | rfl | assumption | simp) (by intro h; cases h)) rfl ?_
          refine DT_ccall hT hP rfl rfl cl48 (c_sameTerm x.1 y.1 rfl) (.cons hpx.v (.cons hpy.v .nil)) rfl (by kernel_rfl) ?_
          refine DT_ev rfl (EA_not rfl) rfl ?_
          refine DTi.nil ?_
          refine hK17 _ _ _ ?_
          refine AC_cond rfl (fun hc5 => ?_) (fun hc5 => ?_)
          · skip
            refine AC_seq fun K18 hK18 => ?_
            refine AC_region ?_
            refine AL_ev (Ev_move) rfl ?_
            refine AL_ev (Ev_move) rfl ?_
            refine AL_ev (Ev_move) rfl ?_
            refine AL_ev (Ev_move) rfl ?_
            first | refine AL_ev (Ev_ix_sl rfl rfl te24 ts35 (by omega) (by assumption)) rfl ?_ | refine AL_ev (Ev_ix_ref rfl rfl te24 ts35 (by omega) (by first | omega | (simp; omega))) rfl ?_
            first | refine AL_ev (Ev_load_ptr rfl rfl rfl hesZ rfl rfl ts35 ta35 (by first | rfl | assumption | simp) (by intro h; cases h)) rfl ?_ | refine AL_ev (Ev_load_ptr rfl rfl rfl hesY rfl rfl ts35 ta35 (by first | rfl | assumption | simp) (by intro h; cases h)) rfl ?_ | refine AL_ev (Ev_load_ptr rfl rfl rfl hesX rfl rfl ts35 ta35 (by first | rfl | assumption | simp) (by intro h; cases h)) rfl ?_ | refine AL_ev (Ev_load_ptr rfl rfl rfl rfl rfl rfl ts35 ta35 (by first | rfl | assumption | simp) (by intro h; cases h)) rfl ?_ | refine AL_ev (Ev_load_rp rfl rfl rfl ts35 ta35 (by first | rfl | assumption | simp) (by intro h; cases h)) rfl ?_
            first | refine AL_ev (Ev_ix_sl rfl rfl te24 ts35 (by omega) (by assumption)) rfl ?_ | refine AL_ev (Ev_ix_ref rfl rfl te24 ts35 (by omega) (by first | omega | (simp; omega))) rfl ?_
            first | refine AL_store rfl (nf rfl) rfl rfl rfl rfl rfl rfl (by first | rfl | assumption | simp [Lay.len, Lay.lens]) ts35 rfl rfl ?_ | refine AL_store rfl (nf rfl) rfl rfl rfl hesX rfl rfl (by first | rfl | assumption | simp [Lay.len, Lay.lens]) ts35 rfl rfl ?_ | refine AL_store rfl (nf rfl) rfl rfl rfl hesY rfl rfl (by first | rfl | assumption | simp [Lay.len, Lay.lens]) ts35 rfl rfl ?_ | refine AL_store rfl (nf rfl) rfl rfl rfl hesZ rfl rfl (by first | rfl | assumption | simp [Lay.len, Lay.lens]) ts35 rfl rfl ?_
            refine AL_nil ?_
            refine hK18 _ _ _ ?_
            refine AC_region ?_
            refine AL_ev (Ev_move) rfl ?_
            first | refine AL_ev (Ev_add rfl rfl _ (wrap_id (by first | omega | (simp; omega)) (by first | omega | (simp; omega)))) rfl ?_ | refine AL_ev (Ev_add rfl rfl _ rfl) rfl ?_
            refine AL_ev (Ev_assign) rfl ?_
            refine AL_nil ?_
            refine hK16 _ _ _ ?_
            refine AC_region ?_
            refine AL_ev (Ev_move) rfl ?_
            first | refine AL_ev (Ev_add rfl rfl _ (wrap_id (by first | omega | (simp; omega)) (by first | omega | (simp; omega)))) rfl ?_ | refine AL_ev (Ev_add rfl rfl _ rfl) rfl ?_
            refine AL_ev (Ev_assign) rfl ?_
            refine AL_nil ?_
            refine closeS (k2 + 1, kp ++ [x], cur2.set kp.length x) [some 0] rfl rfl (by show (ps.length - i) - (k2 + 1) < (ps.length - i) - k2; omega) ?_ (BxTo_some rfl rfl rfl rfl (by first | exact VwL_app (by first | rfl | (rw [show 0 + ((kp.length : Nat) : Int).toNat = kp.length by omega]; exact dsP_set _ _ _)) | exact VwL_dd (by first | rfl | (rw [show 0 + ((kp.length : Nat) : Int).toNat = kp.length by omega]; exact dsP_set _ _ _)) | exact VwL_of (by first | rfl | (rw [show 0 + ((kp.length : Nat) : Int).toNat = kp.length by omega]; exact dsP_set _ _ _))) BxTo_nil) (SlTo_cons (by first | exact .rd .d | exact Vw_int (by first | rfl | assumption | omega | (simp; done) | (simp; omega)) | exact Vw_c (by first | rfl | (simp; done) | simp_all) | exact .any) (SlTo_cons (by first | exact .rd .d | exact Vw_int (by first | rfl | assumption | omega | (simp; done) | (simp; omega)) | exact Vw_c (by first | rfl | (simp; done) | simp_all) | exact .any) (SlTo_cons (Vw_refe rfl (by first | rfl | (rw [dsP_length, dsP_length, List.length_set]) | (rw [dsP_length, dsP_length]; omega))) (SlTo_cons (Vw_refo rfl (by first | rfl | omega | (simp; omega)) (by first | rfl | omega | (simp; omega))) (SlTo_cons (by first | exact .rd .d | exact .any) SlTo_nil)))))
            refine ⟨by omega, by omega, by simp, by simp; omega, ?_, fun z hz => ?_⟩
            · rw [hcur2, drop_get hx2, setL_at _ _ _ _ rfl]
              simp
            · rw [show i + (k2 + 1) - 1 = i + k2 by omega, hx] at hz
              injection hz with hz
              subst hz
              rw [hdk y hy, ddQ_get _ hx, if_neg (sameB_ne (by simpa using hc5))]
              simp [Nat.add_assoc]
          · skip
            refine AC_skip ?_
            refine hK16 _ _ _ ?_
            refine AC_region ?_
            refine AL_ev (Ev_move) rfl ?_
            first | refine AL_ev (Ev_add rfl rfl _ (wrap_id (by first | omega | (simp; omega)) (by first | omega | (simp; omega)))) rfl ?_ | refine AL_ev (Ev_add rfl rfl _ rfl) rfl ?_
            refine AL_ev (Ev_assign) rfl ?_
            refine AL_nil ?_
            refine closeS (k2 + 1, kp, cur2) [some 0] rfl rfl (by show (ps.length - i) - (k2 + 1) < (ps.length - i) - k2; omega) ?_ (BxTo_some rfl rfl rfl rfl (by first | exact VwL_app (by first | rfl | (rw [show 0 + ((kp.length : Nat) : Int).toNat = kp.length by omega]; exact dsP_set _ _ _)) | exact VwL_dd (by first | rfl | (rw [show 0 + ((kp.length : Nat) : Int).toNat = kp.length by omega]; exact dsP_set _ _ _)) | exact VwL_of (by first | rfl | (rw [show 0 + ((kp.length : Nat) : Int).toNat = kp.length by omega]; exact dsP_set _ _ _))) BxTo_nil) (SlTo_cons (by first | exact .rd .d | exact Vw_int (by first | rfl | assumption | omega | (simp; done) | (simp; omega)) | exact Vw_c (by first | rfl | (simp; done) | simp_all) | exact .any) (SlTo_cons (by first | exact .rd .d | exact Vw_int (by first | rfl | assumption | omega | (simp; done) | (simp; omega)) | exact Vw_c (by first | rfl | (simp; done) | simp_all) | exact .any) (SlTo_cons (Vw_refe rfl (by first | rfl | (rw [dsP_length, dsP_length, List.length_set]) | (rw [dsP_length, dsP_length]; omega))) (SlTo_cons (Vw_refo rfl (by first | rfl | omega | (simp; omega)) (by first | rfl | omega | (simp; omega))) (SlTo_cons (by first | exact .rd .d | exact .any) SlTo_nil)))))
            refine ⟨by omega, by omega, hp1, by omega, hcur2, fun z hz => ?_⟩
            rw [show i + (k2 + 1) - 1 = i + k2 by omega, hx] at hz
            injection hz with hz
            subst hz
            rw [hdk y hy, ddQ_get _ hx, if_pos ((sameB_iff _ _).1 (by simpa using hc5))]
            simp [Nat.add_assoc]
        · skip
          have h4 : i + k2 = ps.length := by have := of_decide_eq_false hc4; omega
          obtain ⟨y, hy⟩ : ∃ y, ps[i + k2 - 1]? = some y := ⟨_, List.getElem?_eq_getElem (by omega)⟩
          have hfin : kp = dd ps := by
            rw [hdk y hy, h4, List.drop_length]
            simp [ddQ]
          have htk : (((dsP cur2).map V.d).take (0 + ((kp.length : Nat) : Int).toNat)) = (dsP kp).map V.d := by
            rw [show 0 + ((kp.length : Nat) : Int).toNat = kp.length by omega, hcur2]
            simp only [dsP, List.map_append]
            rw [List.take_append_of_le_length (by simp), List.take_of_length_le (by simp)]
          refine AC_exit ?_
          refine hK12 _ _ _ ?_
          refine AC_seq fun K19 hK19 => ?_
          refine AC_region ?_
          refine AL_ev (Ev_move) rfl ?_
          refine AL_ev (Ev_move) rfl ?_
          first | refine AL_ev (Ev_slice_sl rfl te24 ts35 rfl rfl (by omega) (by first | omega | (simp; done) | (simp; omega)) (by first | omega | (simp; done) | (simp; omega))) rfl ?_ | refine AL_ev (Ev_slice_ref rfl te24 ts35 rfl rfl (by omega) (by omega) (by omega)) rfl ?_
          refine AL_clear rfl rfl rfl te24 ts35 tz35 rfl (List.all_eq_true.1 rfl) (by first | rfl | omega | (simp; omega)) ?_
          refine AL_nil ?_
          refine hK19 _ _ _ ?_
          refine AC_seq fun K20 hK20 => ?_
          refine AC_region ?_
          refine AL_ev (Ev_move) rfl ?_
          refine AL_ev (Ev_move) rfl ?_
          first | refine AL_ev (Ev_slice_sl rfl te24 ts35 rfl rfl (by omega) (by first | omega | (simp; done) | (simp; omega)) (by first | omega | (simp; done) | (simp; omega))) rfl ?_ | refine AL_ev (Ev_slice_ref rfl te24 ts35 rfl rfl (by omega) (by omega) (by omega)) rfl ?_
          refine AL_ev (Ev_assign) rfl ?_
          refine AL_nil ?_
          refine hK20 _ _ _ ?_
          refine AC_ret ?_
          exact retr_ok (kp) (hfin) [0] (CExt.refl _) (.tmp rfl rfl .nil) rfl rfl (BxF_stay rfl rfl rfl rfl rfl (VxL_ds htk) rfl BxF_nil) (Nat.le_refl _) (.cons (Vx_refe rfl (by first | rfl | omega | (simp; omega))) .nil)
      · skip
        refine AC_skip ?_
        refine hK9 _ _ _ ?_
        refine AC_region ?_
        refine AL_ev (Ev_move) rfl ?_
        first | refine AL_ev (Ev_add rfl rfl _ (wrap_id (by first | omega | (simp; omega)) (by first | omega | (simp; omega)))) rfl ?_ | refine AL_ev (Ev_add rfl rfl _ rfl) rfl ?_
        refine AL_ev (Ev_assign) rfl ?_
        refine AL_nil ?_
        refine closeS (i + 1, cur) [some 0] rfl rfl (by show ps.length - (i + 1) < ps.length - i; omega) ?_ (BxTo_some rfl rfl rfl rfl (by first | exact VwL_app (by first | rfl | simp [ints, strs] | simp [ints, strs, injs_map]) | exact VwL_dd (by first | rfl | simp [ints, strs] | simp [ints, strs, injs_map]) | exact VwL_of (by first | rfl | simp [ints, strs] | simp [ints, strs, injs_map])) BxTo_nil) (SlTo_cons (by first | exact .rd .d | exact Vw_int (by first | rfl | assumption | omega | (simp; done) | (simp; omega)) | exact Vw_c (by first | rfl | (simp; done) | simp_all) | exact .any) (SlTo_cons (Vw_refe rfl (by first | rfl | (rw [dsP_length, dsP_length]; omega))) (SlTo_cons (by first | exact .rd .d | exact .any) SlTo_nil)))
        refine ⟨hcur, by omega, by omega, fun z hz => ?_⟩
        rw [Nat.add_sub_cancel, hx] at hz
        injection hz with hz
        subst hz
        rw [hdd y hy, ddQ_get _ hx, if_neg (sameB_ne hc3), take_succ_get hx]
        simp
    · skip
      have h2 : i = ps.length := by have := of_decide_eq_false hc2; omega
      subst h2
      obtain ⟨y, hy⟩ : ∃ y, ps[ps.length - 1]? = some y := ⟨_, List.getElem?_eq_getElem (by omega)⟩
      have hfin : cur = dd ps := by
        rw [hdd y hy, hcur, List.take_length, List.drop_length]
        simp [ddQ]
      refine AC_exit ?_
      refine hK5 _ _ _ ?_
      refine AC_seq fun K21 hK21 => ?_
      refine AC_region ?_
      refine AL_ev (Ev_move) rfl ?_
      refine AL_ev (Ev_assign) rfl ?_
      refine AL_nil ?_
      refine hK21 _ _ _ ?_
      refine AC_ret ?_
      exact retr_ok (cur) (hfin) [0] (CExt.refl _) (.tmp rfl rfl .nil) rfl rfl (BxF_stay rfl rfl rfl rfl rfl (VxL_d _) rfl BxF_nil) (Nat.le_refl _) (.cons (Vx_refe rfl (by simp)) .nil)

set_option maxHeartbeats 1000000 in
set_option maxRecDepth 4000 in
theorem c_sortedTerms (ts : List T) (hb : ∀ t ∈ ts, bulk t ≤ 1099511627775) (hln : ts.length ≤ 1099511627776) : OTCall Try.prog 15 [.sl LT (injs ts)] 35 LT (injs (ddT none (sortF ts []))) [] := by
  have hsl := sortF_len ts
  refine OTCall_of (n := 6) Try.func15 rfl rfl (Nat.le_of_ble_eq_true rfl) fun C0 hdm hT0 => ?_
  have hX0 := CExt.refl C0
  have hT := hT0
  refine AC_seq fun K1 hK1 => ?_
  refine AC_region ?_
  refine AL_ev (Ev_assign) rfl ?_
  refine AL_nil ?_
  refine hK1 _ _ _ ?_
  refine AC_seq fun K2 hK2 => ?_
  refine AC_region ?_
  refine AL_ev (Ev_move) rfl ?_
  refine AL_otcall hT rfl cl10 (c_sortedAll ts hb) rfl rfl _ rfl rfl fun C1 css1 K1 hgt1 hl1 hcl1 => ?_
  simp only [injs_length, ints_length, strs_length] at hcl1
  have hX1 := hX0.trans hgt1
  have hT := hT.ext hgt1
  obtain ⟨zs, hzs, hzd, hzl, hel, hPool, hKb⟩ := sort_pool hl1 (fun t ht => sortF_rt ht)
  have hlz : (psZ zs).length ≤ 1099511627776 := by rw [hzl]; omega
  refine AL_hsortR hT hKb hPool [1] (fun ys => [⟨35, LT, (dsP ys).map V.d⟩]) (fun ys => [.ref LT 1 0 ys.length]) rfl cl47 (c_compact (poolZ zs) (psZ zs) hel hlz) ?_ rfl rfl rfl ?_ (fun _ _ => rfl) ?_ ?_ ?_ ?_ rfl fun nx hnx => ?_
  · exact .cons (Vx_refe rfl (by first | rfl | (rw [← hzd]; simp; omega) | (rw [← hzd]; simp))) (.cons .d .nil)
  · exact BxI_cons rfl rfl rfl rfl rfl (VxL_ds (by rw [← hzd])) BxI_nil
  · exact fun _ _ => BxP_cons rfl rfl (VxL_d _) rfl BxP_nil
  · intro ys hys bx hbx
    rw [List.mem_singleton.1 hbx]
    exact flat_sub (zs := zs) (by rw [show ys = dd _ from hys]; exact dd_sub _)
  · intro ys _ v hv
    rw [List.mem_singleton.1 hv]
    trivial
  · exact fun _ _ => .cons (.ref rfl) .nil
  have hnx : nx = dd (psZ zs) := hnx
  subst hzs
  obtain ⟨css2, K2, hd2, hl2, hL2⟩ := compact_back hl1 (ys := nx) (by rw [hnx]; exact dd_sub _)
  refine AL_ev (Ev_assign) rfl ?_
  refine AL_nil ?_
  refine hK2 _ _ _ ?_
  refine AC_ret ?_
  exact rett_eq [] hX1 hdm (.tmp rfl rfl .nil) (.ref rfl rfl rfl (by simp) (by rw [hd2]; exact OwVs_rawds hL2 hl2) (by simp)) (by rw [hnx, dd_fst, psZ_fst (by first | assumption | omega | simpa using hl1.len)]) rfl

set_option maxHeartbeats 1000000 in
set_option maxRecDepth 4000 in
theorem c_sortedTermsRaw (ts : List T) (hb : ∀ t ∈ ts, bulk t ≤ 1099511627776) : PCall Try.prog 46 [.sl LT (injs ts)] (· = [.sl LT (injs (ddT none (sortF ts [])))]) := by
  generalize hall : sortF ts [] = all
  refine PCall_of (n := 38) Try.func46 rfl rfl (Nat.le_of_ble_eq_true rfl) fun C hdm hT0 => ?_
  have hT := hT0
  refine AC_seq fun K1 hK1 => ?_
  refine AC_region ?_
  refine AL_ev (Ev_assign) rfl ?_
  refine AL_nil ?_
  refine hK1 _ _ _ ?_
  refine AC_seq fun K2 hK2 => ?_
  refine AC_region ?_
  refine AL_bV (Lay.st [.one, .one, .one, .one]) rfl te24 ts35 tz35 rfl rfl (by decide) (by decide) (by first | rfl | simp [lenDs, goodVs, goodV, V.known, Lay.len, Lay.lens]) _ rfl rfl ?_
  refine AL_ev (Ev_assign) rfl ?_
  refine AL_nil ?_
  refine hK2 _ _ _ ?_
  refine AC_seq fun K3 hK3 => ?_
  refine AC_region ?_
  refine AL_ev (Ev_move) rfl ?_
  refine AL_fcall0 hT rfl cl8 (hall ▸ c_specSortedAll ts hb) rfl rfl ?_
  refine AL_ev (Ev_assign) rfl ?_
  refine AL_nil ?_
  refine hK3 _ _ _ ?_
  refine AC_seq fun K4 hK4 => ?_
  refine AC_seq fun K5 hK5 => ?_
  refine AC_region ?_
  refine AL_ev (Ev_assign) rfl ?_
  refine AL_nil ?_
  refine hK5 _ _ _ ?_
  refine AC_block ?_
  refine AC_loopS [4] (Nat × List T) (fun ⟨j, out⟩ => [(5, i64 j), (3, .ref LT 0 0 (injs out).length)]) (fun ⟨j, out⟩ => [some ⟨35, LT, (injs out).map V.d⟩]) (fun st => all.length - st.1) (fun ⟨j, out⟩ => j ≤ all.length ∧ (ddT none all = out ++ ddT ((all.take j).getLast?) (all.drop j) ∧ out.length ≤ j)) ((0, [])) ?_ ?_ ?_
  · skip
    exact enterS [some 0] rfl rfl (BxTo_some rfl rfl rfl rfl (by first | exact .nil | exact VwL_dd (by first | rfl | simp) | exact VwL_app (by first | rfl | simp) | exact VwL_of (by first | rfl | simp)) BxTo_nil) (SlTo_cons (by first | exact .rd .d | exact Vw_int (by first | rfl | assumption | omega | (simp; done) | (simp; omega)) | exact Vw_c (by first | rfl | (simp; done) | simp_all) | exact .any) (SlTo_cons (Vw_refe rfl (by first | rfl | simp)) (SlTo_cons (by first | exact .rd .d | exact .any) SlTo_nil)))
  · skip
    exact ⟨Nat.zero_le _, by simp, by simp⟩
  rintro ⟨j, out⟩ ⟨hj, ⟨hI, hol⟩⟩
  show AC _ _ _ _ _ (FS [4] _ [(5, i64 j), (3, .ref LT 0 0 (injs out).length)]) [some ⟨35, LT, (injs out).map V.d⟩]
  refine AC_seq fun K6 hK6 => ?_
  refine AC_seq fun K7 hK7 => ?_
  refine AC_region ?_
  refine AL_ev (Ev_move) rfl ?_
  refine AL_ev (Ev_move) rfl ?_
  first | refine AL_lim (x := (Operand.tmp 10)) rfl fun hl1 => ?_ | refine AL_limB (x := (Operand.tmp 10)) rfl rfl (by first | rfl | (simp; done) | (simp; omega)) fun hl1 => ?_ | have hl1 := True.intro
  try simp only [injs_length, ints_length, strs_length, injCs_length, u8s_length, List.length_map] at hl1
  first | refine AL_ev (Ev_len_injs te24 rfl) rfl ?_ | refine AL_ev (Ev_len_sl te24 rfl) rfl ?_ | refine AL_ev (Ev_len_ref te24 rfl) rfl ?_ | refine AL_ev (Ev_len_nil te24 rfl) rfl ?_ | refine AL_ev (Ev_len_c te24 rfl) rfl ?_
  refine AL_ev (Ev_lss rfl rfl) rfl ?_
  refine AL_nil ?_
  refine hK7 _ _ _ ?_
  refine AC_cond rfl (fun hc1 => ?_) (fun hc1 => ?_)
  · skip
    have hlt : j < all.length := by simpa using hc1
    obtain ⟨u, hu⟩ : ∃ x, all[j]? = some x := ⟨_, List.getElem?_eq_getElem hlt⟩
    have hu2 := injs_get hu
    have hdr := drop_get hu
    rw [hdr, ddT] at hI
    have hgl : (all.take (j + 1)).getLast? = some u := by rw [take_succ_get hu]; simp
    refine AC_skip ?_
    refine hK6 _ _ _ ?_
    refine AC_seq fun K8 hK8 => ?_
    refine AC_block ?_
    refine AC_seq fun K9 hK9 => ?_
    refine AC_draw hT follows [0, 1, 2, 3, 4, 5, 6, 7, 8, 9, 10, 11, 12, 13, 14] (by kernel_rfl) ?_
    refine DT_ev rfl (EA_move) rfl ?_
    refine DT_ev rfl (EA_eql rfl rfl) rfl ?_
    refine DT_ev rfl (EA_move) rfl ?_
    refine DT_bool 17 rfl (fun hg2 => ?_) (fun hg2 => ?_)
    · skip
      have hj0 : j = 0 := by have := of_decide_eq_true hg2; omega
      refine DT_f rfl rfl rfl rfl rfl ?_
      refine DT_f rfl rfl rfl rfl rfl ?_
      refine DT_f rfl rfl rfl rfl rfl ?_
      refine DT_f rfl rfl rfl rfl rfl ?_
      refine DT_f rfl rfl rfl rfl rfl ?_
      refine DT_f rfl rfl rfl rfl rfl ?_
      refine DT_f rfl rfl rfl rfl rfl ?_
      refine DT_f rfl rfl rfl rfl rfl ?_
      refine DT_f rfl rfl rfl rfl rfl ?_
      refine DT_f rfl rfl rfl rfl rfl ?_
      refine DT_f rfl rfl rfl rfl rfl ?_
      refine DT_ev rfl (EA_pick rfl) rfl ?_
      refine DTi.nil ?_
      refine hK9 _ _ _ ?_
      refine AC_cond_t rfl ?_
      refine AC_region ?_
      refine AL_ev (Ev_move) rfl ?_
      refine AL_ev (Ev_move) rfl ?_
      refine AL_ev (Ev_move) rfl ?_
      first | refine AL_ev (Ev_ix_sl rfl rfl te24 ts35 (by omega) (by assumption)) rfl ?_ | refine AL_ev (Ev_ix_ref rfl rfl te24 ts35 (by omega) (by first | omega | (simp; omega))) rfl ?_
      first | refine AL_ev (Ev_load_ptr rfl rfl rfl rfl rfl rfl ts35 ta35 (by first | rfl | assumption | simp) (by intro h; cases h)) rfl ?_ | refine AL_ev (Ev_load_rp rfl rfl rfl ts35 ta35 (by first | rfl | assumption | simp) (by intro h; cases h)) rfl ?_
      first | refine AL_bD (Lay.st [.one, .one, .one, .one]) rfl te24 ts35 tz35 rfl rfl (by decide) (by decide) (by first | rfl | simp [lenDs, goodVs, goodV, V.known, Lay.len, Lay.lens]) rfl ?_ | refine AL_bV (Lay.st [.one, .one, .one, .one]) rfl te24 ts35 tz35 rfl rfl (by decide) (by decide) (by first | rfl | simp [lenDs, goodVs, goodV, V.known, Lay.len, Lay.lens]) _ rfl rfl ?_
      first | refine AL_append rfl rfl rfl te24 ts35 tz35 rfl tb35 (by decide) (by decide) rfl (by first | rfl | (simp; done) | (simp; omega)) (Src_sl rfl) (by simp only [lim]; first | omega | (simp; done) | (simp; omega)) _ rfl rfl ?_ | refine AL_append rfl rfl rfl te24 ts35 tz35 rfl tb35 (by decide) (by decide) rfl (by first | rfl | (simp; done) | (simp; omega)) (Src_ref rfl rfl rfl (by first | rfl | (simp; done) | (simp; omega))) (by simp only [lim]; first | omega | (simp; done) | (simp; omega)) _ rfl rfl ?_ | refine AL_append rfl rfl rfl te24 ts35 tz35 rfl tb35 (by decide) (by decide) rfl (by first | rfl | (simp; done) | (simp; omega)) (Src_nil rfl) (by simp only [lim]; first | omega | (simp; done) | (simp; omega)) _ rfl rfl ?_
      refine AL_ev (Ev_assign) rfl ?_
      refine AL_nil ?_
      refine hK8 _ _ _ ?_
      refine AC_region ?_
      refine AL_ev (Ev_move) rfl ?_
      first | refine AL_ev (Ev_add rfl rfl _ (wrap_id (by first | omega | (simp; omega)) (by first | omega | (simp; omega)))) rfl ?_ | refine AL_ev (Ev_add rfl rfl _ rfl) rfl ?_
      refine AL_ev (Ev_assign) rfl ?_
      refine AL_nil ?_
      refine closeS (j + 1, out ++ [u]) [some 1] rfl rfl (by show all.length - (j + 1) < all.length - j; omega) ⟨hlt, ?_⟩ (BxTo_some rfl rfl rfl rfl (by first | exact VwL_app (by first | rfl | simp [ints, strs] | simp [ints, strs, injs_map]) | exact VwL_dd (by first | rfl | simp [ints, strs] | simp [ints, strs, injs_map]) | exact VwL_of (by first | rfl | simp [ints, strs] | simp [ints, strs, injs_map])) BxTo_nil) (SlTo_cons (by first | exact .rd .d | exact Vw_int (by first | rfl | assumption | omega | (simp; done) | (simp; omega)) | exact Vw_c (by first | rfl | (simp; done) | simp_all) | exact .any) (SlTo_cons (Vw_refe rfl (by first | rfl | simp | (simp; omega))) (SlTo_cons (by first | exact .rd .d | exact .any) SlTo_nil)))
      refine ⟨?_, by simp; omega⟩
      rw [hI, if_neg (by subst hj0; simp), hgl]
      simp
    · skip
      have hj0 : j ≠ 0 := by have := of_decide_eq_false hg2; omega
      obtain ⟨v, hv⟩ : ∃ x, all[j - 1]? = some x := ⟨_, List.getElem?_eq_getElem (by omega)⟩
      have hv2 : (injs all)[(((j : Nat) : Int) - 1).toNat]? = some (inj v) := by have := injs_get hv; rw [show (((j : Nat) : Int) - 1).toNat = j - 1 by omega]; simpa using this
      have hgp : (all.take j).getLast? = some v := by
        have := take_succ_get hv
        rw [show j - 1 + 1 = j by omega] at this
        rw [this]; simp
      refine DT_evt rfl rfl rfl rfl (EA_move) rfl ?_
      refine DT_evt rfl rfl rfl rfl (EA_move) rfl ?_
      first | refine DT_evt rfl rfl rfl rfl (EA_sub rfl rfl _ (wrap_id (by first | omega | (simp; omega)) (by first | omega | (simp; omega)))) rfl ?_ | refine DT_evt rfl rfl rfl rfl (EA_sub rfl rfl _ rfl) rfl ?_
      first | refine DT_evt rfl rfl rfl rfl (EA_ix_sl rfl rfl te24 ts35 (by omega) (by assumption)) rfl ?_ | refine DT_evt rfl rfl rfl rfl (EA_ix_ref rfl rfl te24 ts35 (by omega) (by first | omega | (simp; omega))) rfl ?_
      first | refine DT_evt rfl rfl rfl rfl (EA_load_ptr rfl rfl rfl rfl rfl rfl ts35 ta35 (by first | rfl | assumption | simp) (by intro h; cases h)) rfl ?_ | refine DT_evt rfl rfl rfl rfl (EA_load_rp rfl rfl rfl ts35 ta35 (by first | rfl | assumption | simp) (by intro h; cases h)) rfl ?_
      refine DT_evt rfl rfl rfl rfl (EA_move) rfl ?_
      refine DT_evt rfl rfl rfl rfl (EA_move) rfl ?_
      first | refine DT_evt rfl rfl rfl rfl (EA_ix_sl rfl rfl te24 ts35 (by omega) (by assumption)) rfl ?_ | refine DT_evt rfl rfl rfl rfl (EA_ix_ref rfl rfl te24 ts35 (by omega) (by first | omega | (simp; omega))) rfl ?_
      first | refine DT_evt rfl rfl rfl rfl (EA_load_ptr rfl rfl rfl rfl rfl rfl ts35 ta35 (by first | rfl | assumption | simp) (by intro h; cases h)) rfl ?_ | refine DT_evt rfl rfl rfl rfl (EA_load_rp rfl rfl rfl ts35 ta35 (by first | rfl | assumption | simp) (by intro h; cases h)) rfl ?_
      refine DT_fcall0t rfl rfl rfl rfl rfl cl32 ((c_specSameTerm v u rfl)) rfl rfl ?_
      refine DT_evt rfl rfl rfl rfl (EA_not rfl) rfl ?_
      refine DT_ev rfl (EA_pick rfl) rfl ?_
      refine DTi.nil ?_
      refine hK9 _ _ _ ?_
      refine AC_cond rfl (fun hc3 => ?_) (fun hc3 => ?_)
      · skip
        refine AC_region ?_
        refine AL_ev (Ev_move) rfl ?_
        refine AL_ev (Ev_move) rfl ?_
        refine AL_ev (Ev_move) rfl ?_
        first | refine AL_ev (Ev_ix_sl rfl rfl te24 ts35 (by omega) (by assumption)) rfl ?_ | refine AL_ev (Ev_ix_ref rfl rfl te24 ts35 (by omega) (by first | omega | (simp; omega))) rfl ?_
        first | refine AL_ev (Ev_load_ptr rfl rfl rfl rfl rfl rfl ts35 ta35 (by first | rfl | assumption | simp) (by intro h; cases h)) rfl ?_ | refine AL_ev (Ev_load_rp rfl rfl rfl ts35 ta35 (by first | rfl | assumption | simp) (by intro h; cases h)) rfl ?_
        first | refine AL_bD (Lay.st [.one, .one, .one, .one]) rfl te24 ts35 tz35 rfl rfl (by decide) (by decide) (by first | rfl | simp [lenDs, goodVs, goodV, V.known, Lay.len, Lay.lens]) rfl ?_ | refine AL_bV (Lay.st [.one, .one, .one, .one]) rfl te24 ts35 tz35 rfl rfl (by decide) (by decide) (by first | rfl | simp [lenDs, goodVs, goodV, V.known, Lay.len, Lay.lens]) _ rfl rfl ?_
        first | refine AL_append rfl rfl rfl te24 ts35 tz35 rfl tb35 (by decide) (by decide) rfl (by first | rfl | (simp; done) | (simp; omega)) (Src_sl rfl) (by simp only [lim]; first | omega | (simp; done) | (simp; omega)) _ rfl rfl ?_ | refine AL_append rfl rfl rfl te24 ts35 tz35 rfl tb35 (by decide) (by decide) rfl (by first | rfl | (simp; done) | (simp; omega)) (Src_ref rfl rfl rfl (by first | rfl | (simp; done) | (simp; omega))) (by simp only [lim]; first | omega | (simp; done) | (simp; omega)) _ rfl rfl ?_ | refine AL_append rfl rfl rfl te24 ts35 tz35 rfl tb35 (by decide) (by decide) rfl (by first | rfl | (simp; done) | (simp; omega)) (Src_nil rfl) (by simp only [lim]; first | omega | (simp; done) | (simp; omega)) _ rfl rfl ?_
        refine AL_ev (Ev_assign) rfl ?_
        refine AL_nil ?_
        refine hK8 _ _ _ ?_
        refine AC_region ?_
        refine AL_ev (Ev_move) rfl ?_
        first | refine AL_ev (Ev_add rfl rfl _ (wrap_id (by first | omega | (simp; omega)) (by first | omega | (simp; omega)))) rfl ?_ | refine AL_ev (Ev_add rfl rfl _ rfl) rfl ?_
        refine AL_ev (Ev_assign) rfl ?_
        refine AL_nil ?_
        refine closeS (j + 1, out ++ [u]) [some 1] rfl rfl (by show all.length - (j + 1) < all.length - j; omega) ⟨hlt, ?_⟩ (BxTo_some rfl rfl rfl rfl (by first | exact VwL_app (by first | rfl | simp [ints, strs] | simp [ints, strs, injs_map]) | exact VwL_dd (by first | rfl | simp [ints, strs] | simp [ints, strs, injs_map]) | exact VwL_of (by first | rfl | simp [ints, strs] | simp [ints, strs, injs_map])) BxTo_nil) (SlTo_cons (by first | exact .rd .d | exact Vw_int (by first | rfl | assumption | omega | (simp; done) | (simp; omega)) | exact Vw_c (by first | rfl | (simp; done) | simp_all) | exact .any) (SlTo_cons (Vw_refe rfl (by first | rfl | simp | (simp; omega))) (SlTo_cons (by first | exact .rd .d | exact .any) SlTo_nil)))
        refine ⟨?_, by simp; omega⟩
        rw [hI, if_neg (by rw [hgp]; intro e; injection e with e; exact sameB_ne (by simpa using hc3) e.symm), hgl]
        simp
      · skip
        refine AC_skip ?_
        refine hK8 _ _ _ ?_
        refine AC_region ?_
        refine AL_ev (Ev_move) rfl ?_
        first | refine AL_ev (Ev_add rfl rfl _ (wrap_id (by first | omega | (simp; omega)) (by first | omega | (simp; omega)))) rfl ?_ | refine AL_ev (Ev_add rfl rfl _ rfl) rfl ?_
        refine AL_ev (Ev_assign) rfl ?_
        refine AL_nil ?_
        refine closeS (j + 1, out) [some 0] rfl rfl (by show all.length - (j + 1) < all.length - j; omega) ⟨hlt, ?_⟩ (BxTo_some rfl rfl rfl rfl (by first | exact VwL_app (by first | rfl | simp [ints, strs] | simp [ints, strs, injs_map]) | exact VwL_dd (by first | rfl | simp [ints, strs] | simp [ints, strs, injs_map]) | exact VwL_of (by first | rfl | simp [ints, strs] | simp [ints, strs, injs_map])) BxTo_nil) (SlTo_cons (by first | exact .rd .d | exact Vw_int (by first | rfl | assumption | omega | (simp; done) | (simp; omega)) | exact Vw_c (by first | rfl | (simp; done) | simp_all) | exact .any) (SlTo_cons (Vw_refe rfl (by first | rfl | simp | (simp; omega))) (SlTo_cons (by first | exact .rd .d | exact .any) SlTo_nil)))
        refine ⟨?_, by omega⟩
        rw [hI, if_pos (by rw [hgp, (sameB_iff v u).1 (by simpa using hc3)]), hgl]
  · skip
    have hj2 : j = all.length := by
      have : ¬ j < all.length := by simpa using hc1
      omega
    subst hj2
    rw [List.drop_length] at hI
    refine AC_exit ?_
    refine hK4 _ _ _ ?_
    refine AC_seq fun K10 hK10 => ?_
    refine AC_region ?_
    refine AL_ev (Ev_move) rfl ?_
    refine AL_ev (Ev_assign) rfl ?_
    refine AL_nil ?_
    refine hK10 _ _ _ ?_
    refine AC_ret ?_
    refine ret_ok hdm (.tmp rfl rfl .nil) (.cons (.ref trivial rfl rfl (by simp) (ReadsL_d _)) .nil) ?_
    rw [hI]
    simp [ddT]

set_option maxHeartbeats 1000000 in
set_option maxRecDepth 4000 in
theorem c_specSortedTerms (ts : List T) (hb : ∀ t ∈ ts, bulk t ≤ 1099511627776) : PCall Try.prog 14 [.sl LT (injs ts)] (· = [.sl LT (injs (ddT none (sortF ts [])))]) := by
  refine PCall_of (n := 8) Try.func14 rfl rfl (Nat.le_of_ble_eq_true rfl) fun C hdm hT0 => ?_
  have hT := hT0
  refine AC_seq fun K1 hK1 => ?_
  refine AC_region ?_
  refine AL_ev (Ev_assign) rfl ?_
  refine AL_nil ?_
  refine hK1 _ _ _ ?_
  refine AC_seq fun K2 hK2 => ?_
  refine AC_region ?_
  refine AL_ev (Ev_move) rfl ?_
  refine AL_fcall0 hT rfl cl46 (c_sortedTermsRaw ts hb) rfl rfl ?_
  refine AL_ev (Ev_assign) rfl ?_
  refine AL_nil ?_
  refine hK2 _ _ _ ?_
  refine AC_seq fun K3 hK3 => ?_
  refine AC_region ?_
  refine AL_ev (Ev_move) rfl ?_
  refine AL_fcall0 hT rfl cl38 (c_l34Terms (ddT none (sortF ts [])) (fun u _ => c_l34Term u)) rfl rfl ?_
  refine AL_ev (Ev_assign) rfl ?_
  refine AL_nil ?_
  refine hK3 _ _ _ ?_
  refine AC_ret ?_
  exact ret_ok hdm (.tmp rfl rfl .nil) (.cons .d .nil) rfl

end Go.Proofs.Ytjhdkjacfclipaa
