/- Contracts of functions. -/
import Derived.Test.YtleahipnknainaaDoorMt
import Derived.Test.YtleahipnknainaaDoorOk
import Derived.Test.YtleahipnknainaaDoorWn
import Derived.Test.YtleahipnknainaaDoorEng27
import Derived.Test.YtleahipnknainaaDoorOw
import Derived.Test.YtleahipnknainaaDoorGd
import Derived.Test.YtleahipnknainaaDoorProg
import Derived.KernelRfl
import Derived.Test.YtleahipnknainaaDoorCA
import Derived.Test.YtleahipnknainaaDoorCB
import Derived.Test.YtleahipnknainaaDoorCC
import Derived.Test.YtleahipnknainaaDoorCF
import Derived.Test.YtleahipnknainaaDoorCG
import Derived.Test.YtleahipnknainaaDoorCH
import Derived.Test.YtleahipnknainaaDoorCI
import Derived.Test.YtleahipnknainaaDoorCO
set_option linter.unusedVariables false
set_option linter.unusedSimpArgs false
namespace Go.Proofs.YtleahipnknainaaDoor
open Go.Eng

theorem cl107 : Callable Tryd.prog 107 := Callable_of Tryd.func107 (by kernel_rfl) (by kernel_rfl)
theorem cl108 : Callable Tryd.prog 108 := Callable_of Tryd.func108 (by kernel_rfl) (by kernel_rfl)
theorem cl116 : Callable Tryd.prog 116 := Callable_of Tryd.func116 (by kernel_rfl) (by kernel_rfl)
theorem cl124 : Callable Tryd.prog 124 := Callable_of Tryd.func124 (by kernel_rfl) (by kernel_rfl)
theorem cl25 : Callable Tryd.prog 25 := Callable_of Tryd.func25 (by kernel_rfl) (by kernel_rfl)
theorem cl82 : Callable Tryd.prog 82 := Callable_of Tryd.func82 (by kernel_rfl) (by kernel_rfl)
theorem cl83 : Callable Tryd.prog 83 := Callable_of Tryd.func83 (by kernel_rfl) (by kernel_rfl)
theorem cl84 : Callable Tryd.prog 84 := Callable_of Tryd.func84 (by kernel_rfl) (by kernel_rfl)
theorem cl90 : Callable Tryd.prog 90 := Callable_of Tryd.func90 (by kernel_rfl) (by kernel_rfl)

set_option maxHeartbeats 1000000 in
set_option maxRecDepth 4000 in
theorem c_addVars (t : T) : ∀ out : List Int, out.length + sz t ≤ 1099511627776 → BCall Tryd.prog 116 [] 3 .one (ints out) [inj t] (ints (uV out t)) := by
  induction t using T.ind with | h k s m ks ih => ?_
  intro out hsz
  have hsz2 : out.length + (1 + szs ks) ≤ 1099511627776 := hsz
  generalize hv1 : (if k = 1 ∧ m ∉ out then out ++ [m] else out) = out1
  have hx1 : out1.length ≤ out.length + 1 := by subst hv1; split <;> simp
  refine BCall_of (n := 34) Tryd.func116 rfl rfl (Nat.le_of_ble_eq_true rfl) fun C o hdm hT => ?_
  refine AC_seq fun K1 hK1 => ?_
  refine AC_region ?_
  refine AL_box (Lay.st [.one, .one, .one, .one]) (nf rfl) rfl (by first | rfl | simp [Lay.len, Lay.lens]) _ rfl rfl ?_
  refine AL_ev (Ev_assign) rfl ?_
  refine AL_nil ?_
  refine hK1 _ _ _ ?_
  refine AC_seqJ (fun f L => f = frOf [(0, .ref .one 0 0 (ints out1).length), (3, .ptr LT 1 0 [])] ∧ L = [some ⟨3, .one, (ints out1).map V.d⟩, some ⟨45, LT, [.d (inj (.mk k s m ks))]⟩]) ?_ ?_
  · skip
    refine AC_seq fun K3 hK3 => ?_
    refine AC_region ?_
    first | refine AL_ev (Ev_fa_ptr rfl fa45_0 rfl rfl) rfl ?_ | refine AL_ev (Ev_fa_rp rfl fa45_0 rfl rfl) rfl ?_
    first | refine AL_ev (Ev_load_ptr rfl rfl rfl rfl rfl rfl ts3 ta3 rfl (fun _ => rfl)) rfl ?_ | refine AL_ev (Ev_load_rp rfl rfl rfl ts3 ta3 rfl (fun _ => rfl)) rfl ?_
    refine AL_ev (Ev_eql rfl rfl) rfl ?_
    refine AL_ev (Ev_move) rfl ?_
    refine AL_bool 10 rfl (fun hg1 => ?_) (fun hg1 => ?_)
    · skip
      refine AL_guard_t rfl rfl rfl ?_
      refine AL_ev (Ev_move) rfl ?_
      refine AL_guard_t rfl rfl rfl ?_
      first | refine AL_ev (Ev_fa_ptr rfl fa45_2 rfl rfl) rfl ?_ | refine AL_ev (Ev_fa_rp rfl fa45_2 rfl rfl) rfl ?_
      refine AL_guard_t rfl rfl rfl ?_
      first | refine AL_ev (Ev_load_ptr rfl rfl rfl rfl rfl rfl ts3 ta3 rfl (fun _ => rfl)) rfl ?_ | refine AL_ev (Ev_load_rp rfl rfl rfl ts3 ta3 rfl (fun _ => rfl)) rfl ?_
      refine AL_guard_t rfl rfl rfl ?_
      refine AL_qcall hT rfl cl90 (c_contains out m) (.cons (.rd (.ref trivial rfl rfl (by simp) (ReadsL_d _))) (.cons (.rd .d) .nil)) rfl ?_
      refine AL_guard_t rfl rfl rfl ?_
      refine AL_ev (Ev_not rfl) rfl ?_
      refine AL_ev (Ev_pick rfl) rfl ?_
      refine AL_nil ?_
      refine hK3 _ _ _ ?_
      refine AC_cond rfl (fun hc2 => ?_) (fun hc2 => ?_)
      · skip
        refine AC_region ?_
        refine AL_ev (Ev_move) rfl ?_
        first | refine AL_ev (Ev_fa_ptr rfl fa45_2 rfl rfl) rfl ?_ | refine AL_ev (Ev_fa_rp rfl fa45_2 rfl rfl) rfl ?_
        first | refine AL_ev (Ev_load_ptr rfl rfl rfl rfl rfl rfl ts3 ta3 rfl (fun _ => rfl)) rfl ?_ | refine AL_ev (Ev_load_rp rfl rfl rfl ts3 ta3 rfl (fun _ => rfl)) rfl ?_
        first | refine AL_bD .one rfl te89 ts3 tz3 rfl rfl (by decide) (by decide) (by first | rfl | simp [lenDs, goodVs, goodV, V.known, Lay.len, Lay.lens]) rfl ?_ | refine AL_bV .one rfl te89 ts3 tz3 rfl rfl (by decide) (by decide) (by first | rfl | simp [lenDs, goodVs, goodV, V.known, Lay.len, Lay.lens]) _ rfl rfl ?_
        first | refine AL_append rfl rfl rfl te89 ts3 tz3 rfl tb3 (by decide) (by decide) rfl (by first | rfl | (simp; done) | (simp; omega)) (Src_sl rfl) (by simp only [lim]; first | omega | (simp; done) | (simp; omega)) _ rfl rfl ?_ | refine AL_append rfl rfl rfl te89 ts3 tz3 rfl tb3 (by decide) (by decide) rfl (by first | rfl | (simp; done) | (simp; omega)) (Src_ref rfl rfl rfl (by first | rfl | (simp; done) | (simp; omega))) (by simp only [lim]; first | omega | (simp; done) | (simp; omega)) _ rfl rfl ?_ | refine AL_append rfl rfl rfl te89 ts3 tz3 rfl tb3 (by decide) (by decide) rfl (by first | rfl | (simp; done) | (simp; omega)) (Src_nil rfl) (by simp only [lim]; first | omega | (simp; done) | (simp; omega)) _ rfl rfl ?_
        refine AL_ev (Ev_assign) rfl ?_
        refine AL_nil ?_
        first
          | refine joinS [some 2, some 1] rfl rfl (BxTo_some rfl rfl rfl rfl (VwL_app (by subst hv1; simp_all [ints])) (BxTo_some rfl rfl rfl rfl (.cons (.rd .d) .nil) BxTo_nil)) (SlTo_cons (Vw_refe rfl (by subst hv1; simp_all [ints])) (SlTo_cons (by first | exact .rd .d | exact .ptr rfl | exact .ref rfl | exact .any | exact Vw_int (by omega)) SlTo_nil))
          | refine joinS [some 0, some 1] rfl rfl (BxTo_some rfl rfl rfl rfl (VwL_dd (by subst hv1; simp_all [ints])) (BxTo_some rfl rfl rfl rfl (.cons (.rd .d) .nil) BxTo_nil)) (SlTo_cons (Vw_refe rfl (by subst hv1; simp_all [ints])) (SlTo_cons (by first | exact .rd .d | exact .ptr rfl | exact .ref rfl | exact .any | exact Vw_int (by omega)) SlTo_nil))
      · skip
        refine AC_skip ?_
        first
          | refine joinS [some 2, some 1] rfl rfl (BxTo_some rfl rfl rfl rfl (VwL_app (by subst hv1; simp_all [ints])) (BxTo_some rfl rfl rfl rfl (.cons (.rd .d) .nil) BxTo_nil)) (SlTo_cons (Vw_refe rfl (by subst hv1; simp_all [ints])) (SlTo_cons (by first | exact .rd .d | exact .ptr rfl | exact .ref rfl | exact .any | exact Vw_int (by omega)) SlTo_nil))
          | refine joinS [some 0, some 1] rfl rfl (BxTo_some rfl rfl rfl rfl (VwL_dd (by subst hv1; simp_all [ints])) (BxTo_some rfl rfl rfl rfl (.cons (.rd .d) .nil) BxTo_nil)) (SlTo_cons (Vw_refe rfl (by subst hv1; simp_all [ints])) (SlTo_cons (by first | exact .rd .d | exact .ptr rfl | exact .ref rfl | exact .any | exact Vw_int (by omega)) SlTo_nil))
    · skip
      refine AL_guard_f rfl rfl rfl rfl ?_
      refine AL_guard_f rfl rfl rfl rfl ?_
      refine AL_guard_f rfl rfl rfl rfl ?_
      refine AL_guard_f rfl rfl rfl rfl ?_
      refine AL_guard_f rfl rfl rfl rfl ?_
      refine AL_ev (Ev_pick rfl) rfl ?_
      refine AL_nil ?_
      refine hK3 _ _ _ ?_
      first | refine AC_cond_f rfl ?_ | refine AC_cond_f (congrArg bl hc2) ?_
      refine AC_skip ?_
      first
        | refine joinS [some 2, some 1] rfl rfl (BxTo_some rfl rfl rfl rfl (VwL_app (by subst hv1; simp_all [ints])) (BxTo_some rfl rfl rfl rfl (.cons (.rd .d) .nil) BxTo_nil)) (SlTo_cons (Vw_refe rfl (by subst hv1; simp_all [ints])) (SlTo_cons (by first | exact .rd .d | exact .ptr rfl | exact .ref rfl | exact .any | exact Vw_int (by omega)) SlTo_nil))
        | refine joinS [some 0, some 1] rfl rfl (BxTo_some rfl rfl rfl rfl (VwL_dd (by subst hv1; simp_all [ints])) (BxTo_some rfl rfl rfl rfl (.cons (.rd .d) .nil) BxTo_nil)) (SlTo_cons (Vw_refe rfl (by subst hv1; simp_all [ints])) (SlTo_cons (by first | exact .rd .d | exact .ptr rfl | exact .ref rfl | exact .any | exact Vw_int (by omega)) SlTo_nil))
  · skip
    rintro f L ⟨rfl, rfl⟩
    refine AC_seq fun K4 hK4 => ?_
    refine AC_seq fun K5 hK5 => ?_
    refine AC_region ?_
    first | refine AL_ev (Ev_fa_ptr rfl fa45_3 rfl rfl) rfl ?_ | refine AL_ev (Ev_fa_rp rfl fa45_3 rfl rfl) rfl ?_
    first | refine AL_ev (Ev_load_ptr rfl rfl rfl rfl rfl rfl ts41 ta41 rfl (fun _ => rfl)) rfl ?_ | refine AL_ev (Ev_load_rp rfl rfl rfl ts41 ta41 rfl (fun _ => rfl)) rfl ?_
    first | refine AL_lim (x := (Operand.tmp 23)) rfl fun hl1 => ?_ | refine AL_limB (x := (Operand.tmp 23)) rfl rfl (by first | rfl | (simp; done) | (simp; omega)) fun hl1 => ?_ | have hl1 := True.intro
    try simp only [injs_length, ints_length, strs_length, injCs_length, List.length_map] at hl1
    first | refine AL_ev (Ev_len_injs te41 rfl) rfl ?_ | refine AL_ev (Ev_len_sl te41 rfl) rfl ?_ | refine AL_ev (Ev_len_ref te41 rfl) rfl ?_ | refine AL_ev (Ev_len_nil te41 rfl) rfl ?_ | refine AL_ev (Ev_len_c te41 rfl) rfl ?_
    refine AL_ev (Ev_move) rfl ?_
    refine AL_nil ?_
    refine hK5 _ _ _ ?_
    refine AC_block ?_
    refine AC_loopS [23, 24] (Nat) (fun j => [(0, .ref .one 0 0 (ints (uL out1 (ks.take j))).length), (25, i64 j)]) (fun j => [some ⟨3, .one, (ints (uL out1 (ks.take j))).map V.d⟩, some ⟨45, LT, [.d (inj (.mk k s m ks))]⟩]) (fun j => ks.length - j) (fun j => j ≤ ks.length) (0) ?_ ?_ ?_
    · skip
      exact enterS [some 0, some 1] rfl rfl (BxTo_some rfl rfl rfl rfl (VwL_dd (by simp [uL])) (BxTo_some rfl rfl rfl rfl (.cons (.rd .d) .nil) BxTo_nil)) (SlTo_cons (Vw_refe rfl (by simp [uL])) (SlTo_cons (by first | exact .rd .d | exact .ptr rfl | exact .ref rfl | exact .any | exact Vw_int (by omega)) (SlTo_cons (by first | exact .rd .d | exact .ptr rfl | exact .ref rfl | exact .any | exact Vw_int (by omega)) (SlTo_cons (by first | exact .rd .d | exact .ptr rfl | exact .ref rfl | exact .any | exact Vw_int (by omega)) SlTo_nil))))
    · skip
      exact Nat.zero_le _
    intro j hj
    refine AC_seq fun K6 hK6 => ?_
    refine AC_region ?_
    refine AL_ev (Ev_lss rfl rfl) rfl ?_
    refine AL_nil ?_
    refine hK6 _ _ _ ?_
    refine AC_seq fun K7 hK7 => ?_
    refine AC_cond rfl (fun hc3 => ?_) (fun hc3 => ?_)
    · skip
      have hlt : j < ks.length := by simpa using hc3
      obtain ⟨u, hu⟩ : ∃ u, ks[j]? = some u := ⟨_, List.getElem?_eq_getElem hlt⟩
      have hu2 := injs_get hu
      have hvl := uL_le (ks.take j) out1
      have hsg := szs_take_get hu
      refine AC_skip ?_
      refine hK7 _ _ _ ?_
      refine AC_seq fun K8 hK8 => ?_
      refine AC_block ?_
      refine AC_seq fun K9 hK9 => ?_
      refine AC_region ?_
      first | refine AL_ev (Ev_ix_sl rfl rfl te41 ts45 (by omega) (by assumption)) rfl ?_ | refine AL_ev (Ev_ix_ref rfl rfl te41 ts45 (by omega) (by first | omega | (simp; omega))) rfl ?_
      first | refine AL_ev (Ev_load_ptr rfl rfl rfl rfl rfl rfl ts45 ta45 (by first | rfl | simp) (by intro h; cases h)) rfl ?_ | refine AL_ev (Ev_load_rp rfl rfl rfl ts45 ta45 (by first | rfl | simp) (by intro h; cases h)) rfl ?_
      refine AL_alloc zo45 _ rfl rfl ?_
      first | refine AL_store rfl (nf rfl) rfl rfl rfl rfl rfl rfl (by first | rfl | simp [Lay.len, Lay.lens]) ts45 rfl rfl ?_ | refine AL_store rfl (nf rfl) rfl rfl rfl hes rfl rfl (by first | rfl | simp [Lay.len, Lay.lens]) ts45 rfl rfl ?_
      refine AL_nil ?_
      refine hK9 _ _ _ ?_
      refine AC_region ?_
      refine AL_ev (Ev_move) rfl ?_
      first | refine AL_ev (Ev_load_ptr rfl rfl rfl rfl rfl rfl ts45 ta45 (by first | rfl | simp) (by intro h; cases h)) rfl ?_ | refine AL_ev (Ev_load_rp rfl rfl rfl ts45 ta45 (by first | rfl | simp) (by intro h; cases h)) rfl ?_
      first | refine AL_bcall hT _ _ [] rfl cl116 rfl rfl rfl rfl (ih u (List.mem_of_getElem? hu) (uL out1 (ks.take j)) (by omega)) rfl rfl (by first | rfl | (simp; done) | (simp; omega)) _ rfl rfl ?_ | refine AL_bcalln hT [] rfl cl116 rfl rfl rfl rfl (ih u (List.mem_of_getElem? hu) (uL out1 (ks.take j)) (by omega)) _ rfl rfl ?_
      refine AL_ev (Ev_assign) rfl ?_
      refine AL_nil ?_
      refine hK8 _ _ _ ?_
      refine AC_region ?_
      first | refine AL_ev (Ev_add rfl rfl _ (wrap_id (by first | omega | (simp; omega)) (by first | omega | (simp; omega)))) rfl ?_ | refine AL_ev (Ev_add rfl rfl _ rfl) rfl ?_
      refine AL_ev (Ev_move) rfl ?_
      refine AL_nil ?_
      refine closeS (j + 1) [some 3, some 1] rfl rfl (by show ks.length - (j + 1) < ks.length - j; omega) hlt (BxTo_some rfl rfl rfl rfl (VwL_dd (by rw [uL_take hu])) (BxTo_some rfl rfl rfl rfl (.cons (.rd .d) .nil) BxTo_nil)) (SlTo_cons (Vw_refe rfl (by rw [uL_take hu])) (SlTo_cons (Vw_int (by omega)) (SlTo_cons (by first | exact .rd .d | exact .ptr rfl | exact .ref rfl | exact .any | exact Vw_int (by omega)) (SlTo_cons (by first | exact .rd .d | exact .ptr rfl | exact .ref rfl | exact .any | exact Vw_int (by omega)) SlTo_nil))))
    · skip
      refine AC_exit ?_
      refine hK4 _ _ _ ?_
      refine AC_seq fun K10 hK10 => ?_
      refine AC_region ?_
      refine AL_ev (Ev_move) rfl ?_
      refine AL_ev (Ev_assign) rfl ?_
      refine AL_nil ?_
      refine hK10 _ _ _ ?_
      refine AC_ret ?_
      have hj2 : j = ks.length := by
        have : ¬ j < ks.length := by simpa using hc3
        omega
      subst hj2
      exact retb_ok hdm (.tmp rfl rfl .nil) rfl (by rw [List.take_length, ← hv1]; rfl) (by rw [List.take_length, ← hv1]; rfl)

set_option maxHeartbeats 1000000 in
set_option maxRecDepth 4000 in
theorem c_implVarsOf (t : T) (hsz : sz t ≤ 1099511627776) : PCall Tryd.prog 89 [inj t] (· = [.sl .one (ints (uV [] t))]) := by
  refine PCall_of (n := 5) Tryd.func89 rfl rfl (Nat.le_of_ble_eq_true rfl) fun C hdm hT0 => ?_
  have hT := hT0
  refine AC_seq fun K1 hK1 => ?_
  refine AC_region ?_
  refine AL_box (Lay.st [.one, .one, .one, .one]) (nf rfl) rfl (by first | rfl | simp [Lay.len, Lay.lens]) _ rfl rfl ?_
  refine AL_ev (Ev_assign) rfl ?_
  refine AL_nil ?_
  refine hK1 _ _ _ ?_
  refine AC_seq fun K2 hK2 => ?_
  refine AC_region ?_
  first | refine AL_ev (Ev_load_ptr rfl rfl rfl rfl rfl rfl ts45 ta45 (by first | rfl | simp) (by intro h; cases h)) rfl ?_ | refine AL_ev (Ev_load_rp rfl rfl rfl ts45 ta45 (by first | rfl | simp) (by intro h; cases h)) rfl ?_
  first | refine AL_bcall hT _ _ [] rfl cl116 rfl rfl rfl rfl (c_addVars t [] (by simpa using hsz)) rfl rfl (by first | rfl | (simp; done) | (simp; omega)) _ rfl rfl ?_ | refine AL_bcalln hT [] rfl cl116 rfl rfl rfl rfl (c_addVars t [] (by simpa using hsz)) _ rfl rfl ?_
  refine AL_ev (Ev_assign) rfl ?_
  refine AL_nil ?_
  refine hK2 _ _ _ ?_
  refine AC_ret ?_
  exact ret_ok hdm (.tmp rfl rfl .nil) (.cons (.ref trivial rfl rfl (by simp) (ReadsL_d _)) .nil) rfl

set_option maxHeartbeats 1000000 in
set_option maxRecDepth 4000 in
theorem c_headOk (t : T) (hb : bulk t ≤ 1099511627776) : PCall Tryd.prog 108 [inj t] (· = [.c (.bool (headB t))]) := by
  refine PCall_of (n := 12) Tryd.func108 rfl rfl (Nat.le_of_ble_eq_true rfl) fun C hdm hT0 => ?_
  have hT := hT0
  refine AC_seq fun K1 hK1 => ?_
  refine AC_region ?_
  refine AL_box (Lay.st [.one, .one, .one, .one]) (nf rfl) rfl (by first | rfl | simp [Lay.len, Lay.lens]) _ rfl rfl ?_
  refine AL_ev (Ev_assign) rfl ?_
  refine AL_nil ?_
  refine hK1 _ _ _ ?_
  refine AC_seq fun K2 hK2 => ?_
  refine AC_region ?_
  first | refine AL_ev (Ev_load_ptr rfl rfl rfl rfl rfl rfl ts45 ta45 (by first | rfl | simp) (by intro h; cases h)) rfl ?_ | refine AL_ev (Ev_load_rp rfl rfl rfl ts45 ta45 (by first | rfl | simp) (by intro h; cases h)) rfl ?_
  refine AL_fcall0 hT rfl cl63 (c_predOf t hb) rfl rfl ?_
  refine AL_ev (Ev_sneq rfl rfl) rfl ?_
  refine AL_ev (Ev_move) rfl ?_
  refine AL_bool 6 rfl (fun hg1 => ?_) (fun hg1 => ?_)
  · skip
    refine AL_guard_t rfl rfl rfl ?_
    first | refine AL_ev (Ev_load_ptr rfl rfl rfl rfl rfl rfl ts45 ta45 (by first | rfl | simp) (by intro h; cases h)) rfl ?_ | refine AL_ev (Ev_load_rp rfl rfl rfl ts45 ta45 (by first | rfl | simp) (by intro h; cases h)) rfl ?_
    refine AL_guard_t rfl rfl rfl ?_
    refine AL_fcall0 hT rfl cl63 (c_predOf t hb) rfl rfl ?_
    refine AL_guard_t rfl rfl rfl ?_
    refine AL_fcall0 hT rfl cl72 (c_control (predS t)) rfl rfl ?_
    refine AL_guard_t rfl rfl rfl ?_
    refine AL_ev (Ev_not rfl) rfl ?_
    refine AL_ev (Ev_pick rfl) rfl ?_
    refine AL_ev (Ev_assign) rfl ?_
    refine AL_nil ?_
    refine hK2 _ _ _ ?_
    refine AC_ret ?_
    refine ret_ok hdm (.tmp rfl rfl .nil) (.cons .d .nil) ?_
    simp_all [headB]
  · skip
    refine AL_guard_f rfl rfl rfl rfl ?_
    refine AL_guard_f rfl rfl rfl rfl ?_
    refine AL_guard_f rfl rfl rfl rfl ?_
    refine AL_guard_f rfl rfl rfl rfl ?_
    refine AL_ev (Ev_pick rfl) rfl ?_
    refine AL_ev (Ev_assign) rfl ?_
    refine AL_nil ?_
    refine hK2 _ _ _ ?_
    refine AC_ret ?_
    refine ret_ok hdm (.tmp rfl rfl .nil) (.cons .d .nil) ?_
    simp_all [headB]

set_option maxHeartbeats 1000000 in
set_option maxRecDepth 4000 in
theorem c_l08Head (t : T) (hb : bulk t ≤ 1099511627776) : PCall Tryd.prog 124 [inj t] (· = [.c (.bool (headB t))]) := by
  refine PCall_of (n := 13) Tryd.func124 rfl rfl (Nat.le_of_ble_eq_true rfl) fun C hdm hT0 => ?_
  have hT := hT0
  refine AC_seq fun K1 hK1 => ?_
  refine AC_region ?_
  refine AL_box (Lay.st [.one, .one, .one, .one]) (nf rfl) rfl (by first | rfl | simp [Lay.len, Lay.lens]) _ rfl rfl ?_
  refine AL_ev (Ev_assign) rfl ?_
  refine AL_nil ?_
  refine hK1 _ _ _ ?_
  refine AC_seq fun K2 hK2 => ?_
  refine AC_region ?_
  first | refine AL_ev (Ev_load_ptr rfl rfl rfl rfl rfl rfl ts45 ta45 (by first | rfl | simp) (by intro h; cases h)) rfl ?_ | refine AL_ev (Ev_load_rp rfl rfl rfl ts45 ta45 (by first | rfl | simp) (by intro h; cases h)) rfl ?_
  refine AL_fcall0 hT rfl cl60 (c_specPredOf t hb) rfl rfl ?_
  refine AL_ev (Ev_assign) rfl ?_
  refine AL_nil ?_
  refine hK2 _ _ _ ?_
  refine AC_seq fun K3 hK3 => ?_
  refine AC_region ?_
  refine AL_ev (Ev_move) rfl ?_
  refine AL_ev (Ev_sneq rfl rfl) rfl ?_
  refine AL_ev (Ev_move) rfl ?_
  refine AL_bool 8 rfl (fun hg1 => ?_) (fun hg1 => ?_)
  · skip
    refine AL_guard_t rfl rfl rfl ?_
    refine AL_ev (Ev_move) rfl ?_
    refine AL_guard_t rfl rfl rfl ?_
    refine AL_fcall0 hT rfl cl105 (c_specControl (predS t)) rfl rfl ?_
    refine AL_guard_t rfl rfl rfl ?_
    refine AL_ev (Ev_not rfl) rfl ?_
    refine AL_ev (Ev_pick rfl) rfl ?_
    refine AL_ev (Ev_assign) rfl ?_
    refine AL_nil ?_
    refine hK3 _ _ _ ?_
    refine AC_ret ?_
    refine ret_ok hdm (.tmp rfl rfl .nil) (.cons .d .nil) ?_
    simp_all [headB]
  · skip
    refine AL_guard_f rfl rfl rfl rfl ?_
    refine AL_guard_f rfl rfl rfl rfl ?_
    refine AL_guard_f rfl rfl rfl rfl ?_
    refine AL_ev (Ev_pick rfl) rfl ?_
    refine AL_ev (Ev_assign) rfl ?_
    refine AL_nil ?_
    refine hK3 _ _ _ ?_
    refine AC_ret ?_
    refine ret_ok hdm (.tmp rfl rfl .nil) (.cons .d .nil) ?_
    simp_all [headB]

set_option maxHeartbeats 1000000 in
set_option maxRecDepth 4000 in
theorem c_l08Clause (c : Cl) (h1 : bulk c.h ≤ 1099511627776) (h2 : bulk c.b ≤ 1099511627776) : PCall Tryd.prog 107 [injC c] (· = [.c (.bool (clB c))]) := by
  obtain ⟨h, b, f⟩ := c
  refine PCall_of (n := 16) Tryd.func107 rfl rfl (Nat.le_of_ble_eq_true rfl) fun C hdm hT0 => ?_
  have hT := hT0
  refine AC_seq fun K1 hK1 => ?_
  refine AC_region ?_
  refine AL_box (Lay.st [(Lay.st [.one, .one, .one, .one]), (Lay.st [.one, .one, .one, .one]), .one]) (nf rfl) rfl (by first | rfl | simp [Lay.len, Lay.lens]) _ rfl rfl ?_
  refine AL_ev (Ev_assign) rfl ?_
  refine AL_nil ?_
  refine hK1 _ _ _ ?_
  refine AC_seq fun K2 hK2 => ?_
  refine AC_region ?_
  first | refine AL_ev (Ev_fa_ptr rfl fa68_0 rfl rfl) rfl ?_ | refine AL_ev (Ev_fa_rp rfl fa68_0 rfl rfl) rfl ?_
  first | refine AL_ev (Ev_load_ptr rfl rfl rfl rfl rfl rfl ts45 ta45 (by first | rfl | simp) (by intro h; cases h)) rfl ?_ | refine AL_ev (Ev_load_rp rfl rfl rfl ts45 ta45 (by first | rfl | simp) (by intro h; cases h)) rfl ?_
  refine AL_fcall0 hT rfl cl74 (c_specTermOk h h1) rfl rfl ?_
  refine AL_ev (Ev_move) rfl ?_
  refine AL_bool 6 rfl (fun hg1 => ?_) (fun hg1 => ?_)
  · skip
    refine AL_guard_t rfl rfl rfl ?_
    first | refine AL_ev (Ev_fa_ptr rfl fa68_1 rfl rfl) rfl ?_ | refine AL_ev (Ev_fa_rp rfl fa68_1 rfl rfl) rfl ?_
    refine AL_guard_t rfl rfl rfl ?_
    first | refine AL_ev (Ev_load_ptr rfl rfl rfl rfl rfl rfl ts45 ta45 (by first | rfl | simp) (by intro h; cases h)) rfl ?_ | refine AL_ev (Ev_load_rp rfl rfl rfl ts45 ta45 (by first | rfl | simp) (by intro h; cases h)) rfl ?_
    refine AL_guard_t rfl rfl rfl ?_
    refine AL_fcall0 hT rfl cl74 (c_specTermOk b h2) rfl rfl ?_
    refine AL_ev (Ev_pick rfl) rfl ?_
    refine AL_ev (Ev_move) rfl ?_
    refine AL_bool 11 rfl (fun hg2 => ?_) (fun hg2 => ?_)
    · skip
      refine AL_guard_t rfl rfl rfl ?_
      first | refine AL_ev (Ev_fa_ptr rfl fa68_0 rfl rfl) rfl ?_ | refine AL_ev (Ev_fa_rp rfl fa68_0 rfl rfl) rfl ?_
      refine AL_guard_t rfl rfl rfl ?_
      first | refine AL_ev (Ev_load_ptr rfl rfl rfl rfl rfl rfl ts45 ta45 (by first | rfl | simp) (by intro h; cases h)) rfl ?_ | refine AL_ev (Ev_load_rp rfl rfl rfl ts45 ta45 (by first | rfl | simp) (by intro h; cases h)) rfl ?_
      refine AL_guard_t rfl rfl rfl ?_
      refine AL_fcall0 hT rfl cl124 (c_l08Head h h1) rfl rfl ?_
      refine AL_ev (Ev_pick rfl) rfl ?_
      refine AL_ev (Ev_assign) rfl ?_
      refine AL_nil ?_
      refine hK2 _ _ _ ?_
      refine AC_ret ?_
      refine ret_ok hdm (.tmp rfl rfl .nil) (.cons .d .nil) ?_
      simp_all [clB]
    · skip
      refine AL_guard_f rfl rfl rfl rfl ?_
      refine AL_guard_f rfl rfl rfl rfl ?_
      refine AL_guard_f rfl rfl rfl rfl ?_
      refine AL_ev (Ev_pick rfl) rfl ?_
      refine AL_ev (Ev_assign) rfl ?_
      refine AL_nil ?_
      refine hK2 _ _ _ ?_
      refine AC_ret ?_
      refine ret_ok hdm (.tmp rfl rfl .nil) (.cons .d .nil) ?_
      simp_all [clB]
  · skip
    refine AL_guard_f rfl rfl rfl rfl ?_
    refine AL_guard_f rfl rfl rfl rfl ?_
    refine AL_guard_f rfl rfl rfl rfl ?_
    refine AL_ev (Ev_pick rfl) rfl ?_
    refine AL_ev (Ev_move) rfl ?_
    refine AL_guard_f rfl rfl rfl rfl ?_
    refine AL_guard_f rfl rfl rfl rfl ?_
    refine AL_guard_f rfl rfl rfl rfl ?_
    refine AL_ev (Ev_pick rfl) rfl ?_
    refine AL_ev (Ev_assign) rfl ?_
    refine AL_nil ?_
    refine hK2 _ _ _ ?_
    refine AC_ret ?_
    refine ret_ok hdm (.tmp rfl rfl .nil) (.cons .d .nil) ?_
    simp_all [clB]

set_option maxHeartbeats 1000000 in
set_option maxRecDepth 4000 in
theorem c_dbOk (d : Dbt) (hb : bulkD d ≤ 1099511627775) : PCall Tryd.prog 83 [injD d] (· = [.c (.bool (dbB d))]) := by
  obtain ⟨cs, op⟩ := d
  obtain ⟨hnc, hbc, hno, hbo⟩ := bulkD_bd hb
  refine PCall_of (n := 39) Tryd.func83 rfl rfl (Nat.le_of_ble_eq_true rfl) fun C hdm hT0 => ?_
  have hT := hT0
  refine AC_seq fun K1 hK1 => ?_
  refine AC_region ?_
  refine AL_box (Lay.st [.one, .one]) (nf rfl) rfl (by first | rfl | simp [Lay.len, Lay.lens]) _ rfl rfl ?_
  refine AL_ev (Ev_assign) rfl ?_
  refine AL_nil ?_
  refine hK1 _ _ _ ?_
  refine AC_seq fun K2 hK2 => ?_
  refine AC_seq fun K3 hK3 => ?_
  refine AC_region ?_
  first | refine AL_ev (Ev_fa_ptr rfl fa30_0 rfl rfl) rfl ?_ | refine AL_ev (Ev_fa_rp rfl fa30_0 rfl rfl) rfl ?_
  first | refine AL_ev (Ev_load_ptr rfl rfl rfl rfl rfl rfl ts28 ta28 rfl (fun _ => rfl)) rfl ?_ | refine AL_ev (Ev_load_rp rfl rfl rfl ts28 ta28 rfl (fun _ => rfl)) rfl ?_
  first | refine AL_lim (x := (Operand.tmp 6)) rfl fun hl1 => ?_ | refine AL_limB (x := (Operand.tmp 6)) rfl rfl (by first | rfl | (simp; done) | (simp; omega)) fun hl1 => ?_ | have hl1 := True.intro
  try simp only [injs_length, ints_length, strs_length, injCs_length, List.length_map] at hl1
  first | refine AL_ev (Ev_len_injCs te28 rfl) rfl ?_ | refine AL_ev (Ev_len_sl te28 rfl) rfl ?_ | refine AL_ev (Ev_len_ref te28 rfl) rfl ?_ | refine AL_ev (Ev_len_nil te28 rfl) rfl ?_ | refine AL_ev (Ev_len_c te28 rfl) rfl ?_
  refine AL_ev (Ev_move) rfl ?_
  refine AL_nil ?_
  refine hK3 _ _ _ ?_
  refine AC_block ?_
  refine AC_loopS [6, 7] (Nat) (fun j => [(8, i64 j), (1, .d (.rp (Lay.st [.one, .one]) (injD ⟨cs, op⟩) []))]) (fun j => []) (fun st => cs.length - st) (fun j => j ≤ cs.length ∧ cs.all clB = (cs.drop j).all clB) (0) ?_ ?_ ?_
  · skip
    exact enterS [] rfl rfl BxTo_nil (SlTo_cons (by first | exact .rd .d | exact Vw_int (by first | rfl | assumption | omega | (simp; done) | (simp; omega)) | exact Vw_c (by first | rfl | (simp; done) | simp_all) | exact .any) (SlTo_cons (by first | exact .rd (.ptr (srcFree rfl) rfl rfl rfl .d) | exact .rd .d) (SlTo_cons (by first | exact .rd .d | exact .any) (SlTo_cons (by first | exact .rd .d | exact .any) SlTo_nil))))
  · skip
    exact ⟨Nat.zero_le _, by simp⟩
  rintro j ⟨hj, hI⟩
  show AC _ _ _ _ _ (FS [6, 7] _ [(8, i64 j), (1, .d (.rp (Lay.st [.one, .one]) (injD ⟨cs, op⟩) []))]) []
  refine AC_seq fun K4 hK4 => ?_
  refine AC_region ?_
  refine AL_ev (Ev_lss rfl rfl) rfl ?_
  refine AL_nil ?_
  refine hK4 _ _ _ ?_
  refine AC_seq fun K5 hK5 => ?_
  refine AC_cond rfl (fun hc1 => ?_) (fun hc1 => ?_)
  · skip
    have hlt : j < cs.length := by simpa using hc1
    obtain ⟨u, hu⟩ : ∃ x, cs[j]? = some x := ⟨_, List.getElem?_eq_getElem hlt⟩
    have hu2 := injCs_get hu
    have hdr := drop_get hu
    obtain ⟨hbu, hbv, _⟩ := bulkCs_bd (List.mem_of_getElem? hu) hbc
    refine AC_skip ?_
    refine hK5 _ _ _ ?_
    refine AC_seq fun K6 hK6 => ?_
    refine AC_block ?_
    refine AC_seq fun K7 hK7 => ?_
    refine AC_region ?_
    first | refine AL_ev (Ev_ix_sl rfl rfl te28 ts68 (by omega) (by assumption)) rfl ?_ | refine AL_ev (Ev_ix_ref rfl rfl te28 ts68 (by omega) (by first | omega | (simp; omega))) rfl ?_
    first | refine AL_ev (Ev_load_ptr rfl rfl rfl rfl rfl rfl ts68 ta68 (by first | rfl | simp) (by intro h; cases h)) rfl ?_ | refine AL_ev (Ev_load_rp rfl rfl rfl ts68 ta68 (by first | rfl | simp) (by intro h; cases h)) rfl ?_
    refine AL_alloc zo68 _ rfl rfl ?_
    first | refine AL_store rfl (nf rfl) rfl rfl rfl rfl rfl rfl (by first | rfl | simp [Lay.len, Lay.lens]) ts68 rfl rfl ?_ | refine AL_store rfl (nf rfl) rfl rfl rfl hes rfl rfl (by first | rfl | simp [Lay.len, Lay.lens]) ts68 rfl rfl ?_
    refine AL_nil ?_
    refine hK7 _ _ _ ?_
    refine AC_seq fun K8 hK8 => ?_
    refine AC_region ?_
    first | refine AL_ev (Ev_fa_ptr rfl fa68_0 rfl rfl) rfl ?_ | refine AL_ev (Ev_fa_rp rfl fa68_0 rfl rfl) rfl ?_
    first | refine AL_ev (Ev_load_ptr rfl rfl rfl rfl rfl rfl ts45 ta45 (by first | rfl | simp) (by intro h; cases h)) rfl ?_ | refine AL_ev (Ev_load_rp rfl rfl rfl ts45 ta45 (by first | rfl | simp) (by intro h; cases h)) rfl ?_
    refine AL_fcall0 hT rfl cl71 (c_termOk u.h (by omega)) rfl rfl ?_
    refine AL_ev (Ev_not rfl) rfl ?_
    refine AL_ev (Ev_move) rfl ?_
    refine AL_bool 16 rfl (fun hg2 => ?_) (fun hg2 => ?_)
    · skip
      refine AL_guard_f rfl rfl rfl rfl ?_
      refine AL_guard_f rfl rfl rfl rfl ?_
      refine AL_guard_f rfl rfl rfl rfl ?_
      refine AL_guard_f rfl rfl rfl rfl ?_
      refine AL_ev (Ev_pick rfl) rfl ?_
      refine AL_ev (Ev_move) rfl ?_
      refine AL_guard_f rfl rfl rfl rfl ?_
      refine AL_guard_f rfl rfl rfl rfl ?_
      refine AL_guard_f rfl rfl rfl rfl ?_
      refine AL_guard_f rfl rfl rfl rfl ?_
      refine AL_ev (Ev_pick rfl) rfl ?_
      refine AL_nil ?_
      refine hK8 _ _ _ ?_
      refine AC_cond_t rfl ?_
      refine AC_seq fun K9 hK9 => ?_
      refine AC_region ?_
      refine AL_ev (Ev_assign) rfl ?_
      refine AL_nil ?_
      refine hK9 _ _ _ ?_
      refine AC_ret ?_
      refine ret_ok hdm (.tmp rfl rfl .nil) (.cons .d .nil) ?_
      rw [dbB]
      try rw [hI]
      try rw [hdr]
      simp_all [clB]
      try omega
    · skip
      refine AL_guard_t rfl rfl rfl ?_
      first | refine AL_ev (Ev_fa_ptr rfl fa68_1 rfl rfl) rfl ?_ | refine AL_ev (Ev_fa_rp rfl fa68_1 rfl rfl) rfl ?_
      refine AL_guard_t rfl rfl rfl ?_
      first | refine AL_ev (Ev_load_ptr rfl rfl rfl rfl rfl rfl ts45 ta45 (by first | rfl | simp) (by intro h; cases h)) rfl ?_ | refine AL_ev (Ev_load_rp rfl rfl rfl ts45 ta45 (by first | rfl | simp) (by intro h; cases h)) rfl ?_
      refine AL_guard_t rfl rfl rfl ?_
      refine AL_fcall0 hT rfl cl71 (c_termOk u.b (by omega)) rfl rfl ?_
      refine AL_guard_t rfl rfl rfl ?_
      refine AL_ev (Ev_not rfl) rfl ?_
      refine AL_ev (Ev_pick rfl) rfl ?_
      refine AL_ev (Ev_move) rfl ?_
      refine AL_bool 22 rfl (fun hg3 => ?_) (fun hg3 => ?_)
      · skip
        refine AL_guard_f rfl rfl rfl rfl ?_
        refine AL_guard_f rfl rfl rfl rfl ?_
        refine AL_guard_f rfl rfl rfl rfl ?_
        refine AL_guard_f rfl rfl rfl rfl ?_
        refine AL_ev (Ev_pick rfl) rfl ?_
        refine AL_nil ?_
        refine hK8 _ _ _ ?_
        refine AC_cond_t rfl ?_
        refine AC_seq fun K10 hK10 => ?_
        refine AC_region ?_
        refine AL_ev (Ev_assign) rfl ?_
        refine AL_nil ?_
        refine hK10 _ _ _ ?_
        refine AC_ret ?_
        refine ret_ok hdm (.tmp rfl rfl .nil) (.cons .d .nil) ?_
        rw [dbB]
        try rw [hI]
        try rw [hdr]
        simp_all [clB]
        try omega
      · skip
        refine AL_guard_t rfl rfl rfl ?_
        first | refine AL_ev (Ev_fa_ptr rfl fa68_0 rfl rfl) rfl ?_ | refine AL_ev (Ev_fa_rp rfl fa68_0 rfl rfl) rfl ?_
        refine AL_guard_t rfl rfl rfl ?_
        first | refine AL_ev (Ev_load_ptr rfl rfl rfl rfl rfl rfl ts45 ta45 (by first | rfl | simp) (by intro h; cases h)) rfl ?_ | refine AL_ev (Ev_load_rp rfl rfl rfl ts45 ta45 (by first | rfl | simp) (by intro h; cases h)) rfl ?_
        refine AL_guard_t rfl rfl rfl ?_
        refine AL_fcall0 hT rfl cl108 (c_headOk u.h (by omega)) rfl rfl ?_
        refine AL_guard_t rfl rfl rfl ?_
        refine AL_ev (Ev_not rfl) rfl ?_
        refine AL_ev (Ev_pick rfl) rfl ?_
        refine AL_nil ?_
        refine hK8 _ _ _ ?_
        refine AC_cond rfl (fun hc4 => ?_) (fun hc4 => ?_)
        · skip
          refine AC_seq fun K11 hK11 => ?_
          refine AC_region ?_
          refine AL_ev (Ev_assign) rfl ?_
          refine AL_nil ?_
          refine hK11 _ _ _ ?_
          refine AC_ret ?_
          refine ret_ok hdm (.tmp rfl rfl .nil) (.cons .d .nil) ?_
          rw [dbB]
          try rw [hI]
          try rw [hdr]
          simp_all [clB]
          try omega
        · skip
          refine AC_skip ?_
          refine hK6 _ _ _ ?_
          refine AC_region ?_
          first | refine AL_ev (Ev_add rfl rfl _ (wrap_id (by first | omega | (simp; omega)) (by first | omega | (simp; omega)))) rfl ?_ | refine AL_ev (Ev_add rfl rfl _ rfl) rfl ?_
          refine AL_ev (Ev_move) rfl ?_
          refine AL_nil ?_
          refine closeS (j + 1) [] rfl rfl (by show cs.length - (j + 1) < cs.length - j; omega) ⟨hlt, ?_⟩ BxTo_nil (SlTo_cons (by first | exact .rd .d | exact Vw_int (by first | rfl | assumption | omega | (simp; done) | (simp; omega)) | exact Vw_c (by first | rfl | (simp; done) | simp_all) | exact .any) (SlTo_cons (by first | exact .rd (.ptr (srcFree rfl) rfl rfl rfl .d) | exact .rd .d) (SlTo_cons (by first | exact .rd .d | exact .any) (SlTo_cons (by first | exact .rd .d | exact .any) SlTo_nil))))
          rw [hI, hdr, List.all_cons]
          simp_all [clB]
  · skip
    have hj2 : j = cs.length := by
      have : ¬ j < cs.length := by simpa using hc1
      omega
    subst hj2
    rw [List.drop_length] at hI
    refine AC_exit ?_
    refine hK2 _ _ _ ?_
    refine AC_seq fun K12 hK12 => ?_
    refine AC_region ?_
    first | refine AL_ev (Ev_fa_ptr rfl fa30_0 rfl rfl) rfl ?_ | refine AL_ev (Ev_fa_rp rfl fa30_0 rfl rfl) rfl ?_
    first | refine AL_ev (Ev_load_ptr rfl rfl rfl rfl rfl rfl ts28 ta28 rfl (fun _ => rfl)) rfl ?_ | refine AL_ev (Ev_load_rp rfl rfl rfl ts28 ta28 rfl (fun _ => rfl)) rfl ?_
    first | refine AL_lim (x := (Operand.tmp 30)) rfl fun hl2 => ?_ | refine AL_limB (x := (Operand.tmp 30)) rfl rfl (by first | rfl | (simp; done) | (simp; omega)) fun hl2 => ?_ | have hl2 := True.intro
    try simp only [injs_length, ints_length, strs_length, injCs_length, List.length_map] at hl2
    first | refine AL_ev (Ev_len_injCs te28 rfl) rfl ?_ | refine AL_ev (Ev_len_sl te28 rfl) rfl ?_ | refine AL_ev (Ev_len_ref te28 rfl) rfl ?_ | refine AL_ev (Ev_len_nil te28 rfl) rfl ?_ | refine AL_ev (Ev_len_c te28 rfl) rfl ?_
    refine AL_ev (Ev_leq rfl rfl) rfl ?_
    refine AL_ev (Ev_move) rfl ?_
    refine AL_bool 33 rfl (fun hg5 => ?_) (fun hg5 => ?_)
    · skip
      refine AL_guard_t rfl rfl rfl ?_
      first | refine AL_ev (Ev_fa_ptr rfl fa30_1 rfl rfl) rfl ?_ | refine AL_ev (Ev_fa_rp rfl fa30_1 rfl rfl) rfl ?_
      refine AL_guard_t rfl rfl rfl ?_
      first | refine AL_ev (Ev_load_ptr rfl rfl rfl rfl rfl rfl ts23 ta23 rfl (fun _ => rfl)) rfl ?_ | refine AL_ev (Ev_load_rp rfl rfl rfl ts23 ta23 rfl (fun _ => rfl)) rfl ?_
      refine AL_guard_t rfl rfl rfl ?_
      first | refine AL_lim (x := (Operand.tmp 35)) rfl fun hl3 => ?_ | refine AL_limB (x := (Operand.tmp 35)) rfl rfl (by first | rfl | (simp; done) | (simp; omega)) fun hl3 => ?_ | have hl3 := True.intro
      try simp only [injs_length, ints_length, strs_length, injCs_length, List.length_map] at hl3
      first | refine AL_ev (Ev_len_strs te23 rfl) rfl ?_ | refine AL_ev (Ev_len_sl te23 rfl) rfl ?_ | refine AL_ev (Ev_len_ref te23 rfl) rfl ?_ | refine AL_ev (Ev_len_nil te23 rfl) rfl ?_ | refine AL_ev (Ev_len_c te23 rfl) rfl ?_
      refine AL_guard_t rfl rfl rfl ?_
      refine AL_ev (Ev_leq rfl rfl) rfl ?_
      refine AL_ev (Ev_pick rfl) rfl ?_
      refine AL_ev (Ev_assign) rfl ?_
      refine AL_nil ?_
      refine hK12 _ _ _ ?_
      refine AC_ret ?_
      refine ret_ok hdm (.tmp rfl rfl .nil) (.cons .d .nil) ?_
      rw [dbB]
      try rw [hI]
      try rw [hdr]
      simp_all [clB]
      try omega
    · skip
      refine AL_guard_f rfl rfl rfl rfl ?_
      refine AL_guard_f rfl rfl rfl rfl ?_
      refine AL_guard_f rfl rfl rfl rfl ?_
      refine AL_guard_f rfl rfl rfl rfl ?_
      refine AL_ev (Ev_pick rfl) rfl ?_
      refine AL_ev (Ev_assign) rfl ?_
      refine AL_nil ?_
      refine hK12 _ _ _ ?_
      refine AC_ret ?_
      refine ret_ok hdm (.tmp rfl rfl .nil) (.cons .d .nil) ?_
      rw [dbB]
      try rw [hI]
      try rw [hdr]
      simp_all [clB]
      try omega

set_option maxHeartbeats 1000000 in
set_option maxRecDepth 4000 in
theorem c_specDbOk (d : Dbt) (hb : bulkD d ≤ 1099511627775) : PCall Tryd.prog 82 [injD d] (· = [.c (.bool (dbB d))]) := by
  obtain ⟨cs, op⟩ := d
  obtain ⟨hnc, hbc, hno, hbo⟩ := bulkD_bd hb
  refine PCall_of (n := 28) Tryd.func82 rfl rfl (Nat.le_of_ble_eq_true rfl) fun C hdm hT0 => ?_
  have hT := hT0
  refine AC_seq fun K1 hK1 => ?_
  refine AC_region ?_
  refine AL_box (Lay.st [.one, .one]) (nf rfl) rfl (by first | rfl | simp [Lay.len, Lay.lens]) _ rfl rfl ?_
  refine AL_ev (Ev_assign) rfl ?_
  refine AL_nil ?_
  refine hK1 _ _ _ ?_
  refine AC_seq fun K2 hK2 => ?_
  refine AC_seq fun K3 hK3 => ?_
  refine AC_region ?_
  refine AL_ev (Ev_assign) rfl ?_
  refine AL_nil ?_
  refine hK3 _ _ _ ?_
  refine AC_block ?_
  refine AC_loopS [] (Nat) (fun j => [(3, i64 j), (1, .d (.rp (Lay.st [.one, .one]) (injD ⟨cs, op⟩) []))]) (fun j => []) (fun st => cs.length - st) (fun j => j ≤ cs.length ∧ cs.all clB = (cs.drop j).all clB) (0) ?_ ?_ ?_
  · skip
    exact enterS [] rfl rfl BxTo_nil (SlTo_cons (by first | exact .rd .d | exact Vw_int (by first | rfl | assumption | omega | (simp; done) | (simp; omega)) | exact Vw_c (by first | rfl | (simp; done) | simp_all) | exact .any) (SlTo_cons (by first | exact .rd (.ptr (srcFree rfl) rfl rfl rfl .d) | exact .rd .d) SlTo_nil))
  · skip
    exact ⟨Nat.zero_le _, by simp⟩
  rintro j ⟨hj, hI⟩
  show AC _ _ _ _ _ (FS [] _ [(3, i64 j), (1, .d (.rp (Lay.st [.one, .one]) (injD ⟨cs, op⟩) []))]) []
  refine AC_seq fun K4 hK4 => ?_
  refine AC_seq fun K5 hK5 => ?_
  refine AC_region ?_
  refine AL_ev (Ev_move) rfl ?_
  first | refine AL_ev (Ev_fa_ptr rfl fa30_0 rfl rfl) rfl ?_ | refine AL_ev (Ev_fa_rp rfl fa30_0 rfl rfl) rfl ?_
  first | refine AL_ev (Ev_load_ptr rfl rfl rfl rfl rfl rfl ts28 ta28 rfl (fun _ => rfl)) rfl ?_ | refine AL_ev (Ev_load_rp rfl rfl rfl ts28 ta28 rfl (fun _ => rfl)) rfl ?_
  first | refine AL_lim (x := (Operand.tmp 6)) rfl fun hl1 => ?_ | refine AL_limB (x := (Operand.tmp 6)) rfl rfl (by first | rfl | (simp; done) | (simp; omega)) fun hl1 => ?_ | have hl1 := True.intro
  try simp only [injs_length, ints_length, strs_length, injCs_length, List.length_map] at hl1
  first | refine AL_ev (Ev_len_injCs te28 rfl) rfl ?_ | refine AL_ev (Ev_len_sl te28 rfl) rfl ?_ | refine AL_ev (Ev_len_ref te28 rfl) rfl ?_ | refine AL_ev (Ev_len_nil te28 rfl) rfl ?_ | refine AL_ev (Ev_len_c te28 rfl) rfl ?_
  refine AL_ev (Ev_lss rfl rfl) rfl ?_
  refine AL_nil ?_
  refine hK5 _ _ _ ?_
  refine AC_cond rfl (fun hc1 => ?_) (fun hc1 => ?_)
  · skip
    have hlt : j < cs.length := by simpa using hc1
    obtain ⟨u, hu⟩ : ∃ x, cs[j]? = some x := ⟨_, List.getElem?_eq_getElem hlt⟩
    have hu2 := injCs_get hu
    have hdr := drop_get hu
    obtain ⟨hbu, hbv, _⟩ := bulkCs_bd (List.mem_of_getElem? hu) hbc
    refine AC_skip ?_
    refine hK4 _ _ _ ?_
    refine AC_seq fun K6 hK6 => ?_
    refine AC_block ?_
    refine AC_seq fun K7 hK7 => ?_
    refine AC_region ?_
    first | refine AL_ev (Ev_fa_ptr rfl fa30_0 rfl rfl) rfl ?_ | refine AL_ev (Ev_fa_rp rfl fa30_0 rfl rfl) rfl ?_
    first | refine AL_ev (Ev_load_ptr rfl rfl rfl rfl rfl rfl ts28 ta28 rfl (fun _ => rfl)) rfl ?_ | refine AL_ev (Ev_load_rp rfl rfl rfl ts28 ta28 rfl (fun _ => rfl)) rfl ?_
    refine AL_ev (Ev_move) rfl ?_
    first | refine AL_ev (Ev_ix_sl rfl rfl te28 ts68 (by omega) (by assumption)) rfl ?_ | refine AL_ev (Ev_ix_ref rfl rfl te28 ts68 (by omega) (by first | omega | (simp; omega))) rfl ?_
    first | refine AL_ev (Ev_load_ptr rfl rfl rfl rfl rfl rfl ts68 ta68 (by first | rfl | simp) (by intro h; cases h)) rfl ?_ | refine AL_ev (Ev_load_rp rfl rfl rfl ts68 ta68 (by first | rfl | simp) (by intro h; cases h)) rfl ?_
    refine AL_fcall0 hT rfl cl107 (c_l08Clause u (by omega) (by omega)) rfl rfl ?_
    refine AL_ev (Ev_not rfl) rfl ?_
    refine AL_nil ?_
    refine hK7 _ _ _ ?_
    refine AC_cond rfl (fun hc2 => ?_) (fun hc2 => ?_)
    · skip
      refine AC_seq fun K8 hK8 => ?_
      refine AC_region ?_
      refine AL_ev (Ev_assign) rfl ?_
      refine AL_nil ?_
      refine hK8 _ _ _ ?_
      refine AC_ret ?_
      refine ret_ok hdm (.tmp rfl rfl .nil) (.cons .d .nil) ?_
      rw [dbB]
      try rw [hI]
      try rw [hdr]
      simp_all
      try omega
    · skip
      refine AC_skip ?_
      refine hK6 _ _ _ ?_
      refine AC_region ?_
      refine AL_ev (Ev_move) rfl ?_
      first | refine AL_ev (Ev_add rfl rfl _ (wrap_id (by first | omega | (simp; omega)) (by first | omega | (simp; omega)))) rfl ?_ | refine AL_ev (Ev_add rfl rfl _ rfl) rfl ?_
      refine AL_ev (Ev_assign) rfl ?_
      refine AL_nil ?_
      refine closeS (j + 1) [] rfl rfl (by show cs.length - (j + 1) < cs.length - j; omega) ⟨hlt, ?_⟩ BxTo_nil (SlTo_cons (by first | exact .rd .d | exact Vw_int (by first | rfl | assumption | omega | (simp; done) | (simp; omega)) | exact Vw_c (by first | rfl | (simp; done) | simp_all) | exact .any) (SlTo_cons (by first | exact .rd (.ptr (srcFree rfl) rfl rfl rfl .d) | exact .rd .d) SlTo_nil))
      rw [hI, hdr, List.all_cons]
      simp_all
  · skip
    have hj2 : j = cs.length := by
      have : ¬ j < cs.length := by simpa using hc1
      omega
    subst hj2
    rw [List.drop_length] at hI
    refine AC_exit ?_
    refine hK2 _ _ _ ?_
    refine AC_seq fun K9 hK9 => ?_
    refine AC_region ?_
    first | refine AL_ev (Ev_fa_ptr rfl fa30_0 rfl rfl) rfl ?_ | refine AL_ev (Ev_fa_rp rfl fa30_0 rfl rfl) rfl ?_
    first | refine AL_ev (Ev_load_ptr rfl rfl rfl rfl rfl rfl ts28 ta28 rfl (fun _ => rfl)) rfl ?_ | refine AL_ev (Ev_load_rp rfl rfl rfl ts28 ta28 rfl (fun _ => rfl)) rfl ?_
    first | refine AL_lim (x := (Operand.tmp 19)) rfl fun hl2 => ?_ | refine AL_limB (x := (Operand.tmp 19)) rfl rfl (by first | rfl | (simp; done) | (simp; omega)) fun hl2 => ?_ | have hl2 := True.intro
    try simp only [injs_length, ints_length, strs_length, injCs_length, List.length_map] at hl2
    first | refine AL_ev (Ev_len_injCs te28 rfl) rfl ?_ | refine AL_ev (Ev_len_sl te28 rfl) rfl ?_ | refine AL_ev (Ev_len_ref te28 rfl) rfl ?_ | refine AL_ev (Ev_len_nil te28 rfl) rfl ?_ | refine AL_ev (Ev_len_c te28 rfl) rfl ?_
    refine AL_ev (Ev_leq rfl rfl) rfl ?_
    refine AL_ev (Ev_move) rfl ?_
    refine AL_bool 22 rfl (fun hg3 => ?_) (fun hg3 => ?_)
    · skip
      refine AL_guard_t rfl rfl rfl ?_
      first | refine AL_ev (Ev_fa_ptr rfl fa30_1 rfl rfl) rfl ?_ | refine AL_ev (Ev_fa_rp rfl fa30_1 rfl rfl) rfl ?_
      refine AL_guard_t rfl rfl rfl ?_
      first | refine AL_ev (Ev_load_ptr rfl rfl rfl rfl rfl rfl ts23 ta23 rfl (fun _ => rfl)) rfl ?_ | refine AL_ev (Ev_load_rp rfl rfl rfl ts23 ta23 rfl (fun _ => rfl)) rfl ?_
      refine AL_guard_t rfl rfl rfl ?_
      first | refine AL_lim (x := (Operand.tmp 24)) rfl fun hl3 => ?_ | refine AL_limB (x := (Operand.tmp 24)) rfl rfl (by first | rfl | (simp; done) | (simp; omega)) fun hl3 => ?_ | have hl3 := True.intro
      try simp only [injs_length, ints_length, strs_length, injCs_length, List.length_map] at hl3
      first | refine AL_ev (Ev_len_strs te23 rfl) rfl ?_ | refine AL_ev (Ev_len_sl te23 rfl) rfl ?_ | refine AL_ev (Ev_len_ref te23 rfl) rfl ?_ | refine AL_ev (Ev_len_nil te23 rfl) rfl ?_ | refine AL_ev (Ev_len_c te23 rfl) rfl ?_
      refine AL_guard_t rfl rfl rfl ?_
      refine AL_ev (Ev_leq rfl rfl) rfl ?_
      refine AL_ev (Ev_pick rfl) rfl ?_
      refine AL_ev (Ev_assign) rfl ?_
      refine AL_nil ?_
      refine hK9 _ _ _ ?_
      refine AC_ret ?_
      refine ret_ok hdm (.tmp rfl rfl .nil) (.cons .d .nil) ?_
      rw [dbB]
      try rw [hI]
      try rw [hdr]
      simp_all
      try omega
    · skip
      refine AL_guard_f rfl rfl rfl rfl ?_
      refine AL_guard_f rfl rfl rfl rfl ?_
      refine AL_guard_f rfl rfl rfl rfl ?_
      refine AL_guard_f rfl rfl rfl rfl ?_
      refine AL_ev (Ev_pick rfl) rfl ?_
      refine AL_ev (Ev_assign) rfl ?_
      refine AL_nil ?_
      refine hK9 _ _ _ ?_
      refine AC_ret ?_
      refine ret_ok hdm (.tmp rfl rfl .nil) (.cons .d .nil) ?_
      rw [dbB]
      try rw [hI]
      try rw [hdr]
      simp_all
      try omega

set_option maxHeartbeats 1000000 in
set_option maxRecDepth 4000 in
theorem c_plainDb (d : Dbt) (hb : bulkD d ≤ 1099511627775) : PCall Tryd.prog 41 [injD d] (· = [.c (.bool (plainB d))]) := by
  obtain ⟨cs, op⟩ := d
  obtain ⟨hnc, hbc, hno, hbo⟩ := bulkD_bd hb
  refine PCall_of (n := 32) Tryd.func41 rfl rfl (Nat.le_of_ble_eq_true rfl) fun C hdm hT0 => ?_
  have hT := hT0
  refine AC_seq fun K1 hK1 => ?_
  refine AC_region ?_
  refine AL_box (Lay.st [.one, .one]) (nf rfl) rfl (by first | rfl | simp [Lay.len, Lay.lens]) _ rfl rfl ?_
  refine AL_ev (Ev_assign) rfl ?_
  refine AL_nil ?_
  refine hK1 _ _ _ ?_
  refine AC_seq fun K2 hK2 => ?_
  refine AC_seq fun K3 hK3 => ?_
  refine AC_region ?_
  first | refine AL_ev (Ev_load_ptr rfl rfl rfl rfl rfl rfl ts30 ta30 (by first | rfl | simp) (by intro h; cases h)) rfl ?_ | refine AL_ev (Ev_load_rp rfl rfl rfl ts30 ta30 (by first | rfl | simp) (by intro h; cases h)) rfl ?_
  refine AL_fcall0 hT rfl cl83 (c_dbOk ⟨cs, op⟩ hb) rfl rfl ?_
  refine AL_ev (Ev_not rfl) rfl ?_
  refine AL_ev (Ev_move) rfl ?_
  refine AL_bool 10 rfl (fun hg1 => ?_) (fun hg1 => ?_)
  · skip
    refine AL_guard_f rfl rfl rfl rfl ?_
    refine AL_guard_f rfl rfl rfl rfl ?_
    refine AL_guard_f rfl rfl rfl rfl ?_
    refine AL_guard_f rfl rfl rfl rfl ?_
    refine AL_ev (Ev_pick rfl) rfl ?_
    refine AL_nil ?_
    refine hK3 _ _ _ ?_
    refine AC_cond_t rfl ?_
    refine AC_seq fun K4 hK4 => ?_
    refine AC_region ?_
    refine AL_ev (Ev_assign) rfl ?_
    refine AL_nil ?_
    refine hK4 _ _ _ ?_
    refine AC_ret ?_
    refine ret_ok hdm (.tmp rfl rfl .nil) (.cons .d .nil) ?_
    rw [plainB_eq]
    have hpr := clsOf_any cs cPr
    try rw [hI]
    try rw [hdr]
    simp_all
  · skip
    refine AL_guard_t rfl rfl rfl ?_
    first | refine AL_ev (Ev_load_ptr rfl rfl rfl rfl rfl rfl ts30 ta30 (by first | rfl | simp) (by intro h; cases h)) rfl ?_ | refine AL_ev (Ev_load_rp rfl rfl rfl ts30 ta30 (by first | rfl | simp) (by intro h; cases h)) rfl ?_
    refine AL_guard_t rfl rfl rfl ?_
    refine AL_fcall0 hT rfl cl84 (c_clausesOf ⟨cs, op⟩ cPr (by omega)) rfl rfl ?_
    refine AL_guard_t rfl rfl rfl ?_
    first | refine AL_lim (x := (Operand.tmp 12)) rfl fun hl1 => ?_ | refine AL_limB (x := (Operand.tmp 12)) rfl rfl (by first | rfl | (simp; done) | (simp; omega)) fun hl1 => ?_ | have hl1 := True.intro
    try simp only [injs_length, ints_length, strs_length, injCs_length, List.length_map] at hl1
    first | refine AL_ev (Ev_len_injCs te28 rfl) rfl ?_ | refine AL_ev (Ev_len_sl te28 rfl) rfl ?_ | refine AL_ev (Ev_len_ref te28 rfl) rfl ?_ | refine AL_ev (Ev_len_nil te28 rfl) rfl ?_ | refine AL_ev (Ev_len_c te28 rfl) rfl ?_
    refine AL_guard_t rfl rfl rfl ?_
    refine AL_ev (Ev_gtr rfl rfl) rfl ?_
    refine AL_ev (Ev_pick rfl) rfl ?_
    refine AL_nil ?_
    refine hK3 _ _ _ ?_
    refine AC_cond rfl (fun hc2 => ?_) (fun hc2 => ?_)
    · skip
      refine AC_seq fun K5 hK5 => ?_
      refine AC_region ?_
      refine AL_ev (Ev_assign) rfl ?_
      refine AL_nil ?_
      refine hK5 _ _ _ ?_
      refine AC_ret ?_
      refine ret_ok hdm (.tmp rfl rfl .nil) (.cons .d .nil) ?_
      rw [plainB_eq]
      have hpr := clsOf_any cs cPr
      try rw [hI]
      try rw [hdr]
      simp_all
    · skip
      refine AC_skip ?_
      refine hK2 _ _ _ ?_
      refine AC_seq fun K6 hK6 => ?_
      refine AC_seq fun K7 hK7 => ?_
      refine AC_region ?_
      first | refine AL_ev (Ev_fa_ptr rfl fa30_0 rfl rfl) rfl ?_ | refine AL_ev (Ev_fa_rp rfl fa30_0 rfl rfl) rfl ?_
      first | refine AL_ev (Ev_load_ptr rfl rfl rfl rfl rfl rfl ts28 ta28 rfl (fun _ => rfl)) rfl ?_ | refine AL_ev (Ev_load_rp rfl rfl rfl ts28 ta28 rfl (fun _ => rfl)) rfl ?_
      first | refine AL_lim (x := (Operand.tmp 17)) rfl fun hl2 => ?_ | refine AL_limB (x := (Operand.tmp 17)) rfl rfl (by first | rfl | (simp; done) | (simp; omega)) fun hl2 => ?_ | have hl2 := True.intro
      try simp only [injs_length, ints_length, strs_length, injCs_length, List.length_map] at hl2
      first | refine AL_ev (Ev_len_injCs te28 rfl) rfl ?_ | refine AL_ev (Ev_len_sl te28 rfl) rfl ?_ | refine AL_ev (Ev_len_ref te28 rfl) rfl ?_ | refine AL_ev (Ev_len_nil te28 rfl) rfl ?_ | refine AL_ev (Ev_len_c te28 rfl) rfl ?_
      refine AL_ev (Ev_move) rfl ?_
      refine AL_nil ?_
      refine hK7 _ _ _ ?_
      refine AC_block ?_
      refine AC_loopS [17, 18] (Nat) (fun j => [(19, i64 j)]) (fun j => []) (fun st => cs.length - st) (fun j => j ≤ cs.length ∧ (cs.all fun c => (goalsIn c.b).2) = (cs.drop j).all fun c => (goalsIn c.b).2) (0) ?_ ?_ ?_
      · skip
        exact enterS [] rfl rfl BxTo_nil (SlTo_cons (by first | exact .rd .d | exact Vw_int (by first | rfl | assumption | omega | (simp; done) | (simp; omega)) | exact Vw_c (by first | rfl | (simp; done) | simp_all) | exact .any) (SlTo_cons (by first | exact .rd .d | exact .any) (SlTo_cons (by first | exact .rd .d | exact .any) SlTo_nil)))
      · skip
        exact ⟨Nat.zero_le _, by simp⟩
      rintro j ⟨hj, hI⟩
      show AC _ _ _ _ _ (FS [17, 18] _ [(19, i64 j)]) []
      refine AC_seq fun K8 hK8 => ?_
      refine AC_region ?_
      refine AL_ev (Ev_lss rfl rfl) rfl ?_
      refine AL_nil ?_
      refine hK8 _ _ _ ?_
      refine AC_seq fun K9 hK9 => ?_
      refine AC_cond rfl (fun hc3 => ?_) (fun hc3 => ?_)
      · skip
        have hlt : j < cs.length := by simpa using hc3
        obtain ⟨u, hu⟩ : ∃ x, cs[j]? = some x := ⟨_, List.getElem?_eq_getElem hlt⟩
        have hu2 := injCs_get hu
        have hdr := drop_get hu
        obtain ⟨hbu, hbv, _⟩ := bulkCs_bd (List.mem_of_getElem? hu) hbc
        refine AC_skip ?_
        refine hK9 _ _ _ ?_
        refine AC_seq fun K10 hK10 => ?_
        refine AC_block ?_
        refine AC_seq fun K11 hK11 => ?_
        refine AC_region ?_
        first | refine AL_ev (Ev_ix_sl rfl rfl te28 ts68 (by omega) (by assumption)) rfl ?_ | refine AL_ev (Ev_ix_ref rfl rfl te28 ts68 (by omega) (by first | omega | (simp; omega))) rfl ?_
        first | refine AL_ev (Ev_load_ptr rfl rfl rfl rfl rfl rfl ts68 ta68 (by first | rfl | simp) (by intro h; cases h)) rfl ?_ | refine AL_ev (Ev_load_rp rfl rfl rfl ts68 ta68 (by first | rfl | simp) (by intro h; cases h)) rfl ?_
        refine AL_alloc zo68 _ rfl rfl ?_
        first | refine AL_store rfl (nf rfl) rfl rfl rfl rfl rfl rfl (by first | rfl | simp [Lay.len, Lay.lens]) ts68 rfl rfl ?_ | refine AL_store rfl (nf rfl) rfl rfl rfl hes rfl rfl (by first | rfl | simp [Lay.len, Lay.lens]) ts68 rfl rfl ?_
        refine AL_nil ?_
        refine hK11 _ _ _ ?_
        refine AC_seq fun K12 hK12 => ?_
        refine AC_region ?_
        first | refine AL_ev (Ev_fa_ptr rfl fa68_1 rfl rfl) rfl ?_ | refine AL_ev (Ev_fa_rp rfl fa68_1 rfl rfl) rfl ?_
        first | refine AL_ev (Ev_load_ptr rfl rfl rfl rfl rfl rfl ts45 ta45 (by first | rfl | simp) (by intro h; cases h)) rfl ?_ | refine AL_ev (Ev_load_rp rfl rfl rfl ts45 ta45 (by first | rfl | simp) (by intro h; cases h)) rfl ?_
        refine AL_fcall0 hT rfl cl27 ((c_goalsIn u.b (by omega)).pcall rfl) rfl rfl ?_
        refine AL_ev (Ev_move) rfl ?_
        refine AL_ev (Ev_extract rfl rfl) rfl ?_
        refine AL_ev (Ev_extract rfl rfl) rfl ?_
        refine AL_ev (Ev_assign) rfl ?_
        refine AL_ev (Ev_assign) rfl ?_
        refine AL_nil ?_
        refine hK12 _ _ _ ?_
        refine AC_seq fun K13 hK13 => ?_
        refine AC_region ?_
        refine AL_ev (Ev_move) rfl ?_
        refine AL_ev (Ev_not rfl) rfl ?_
        refine AL_nil ?_
        refine hK13 _ _ _ ?_
        refine AC_cond rfl (fun hc4 => ?_) (fun hc4 => ?_)
        · skip
          refine AC_seq fun K14 hK14 => ?_
          refine AC_region ?_
          refine AL_ev (Ev_assign) rfl ?_
          refine AL_nil ?_
          refine hK14 _ _ _ ?_
          refine AC_ret ?_
          refine ret_ok hdm (.tmp rfl rfl .nil) (.cons .d .nil) ?_
          rw [plainB_eq]
          have hpr := clsOf_any cs cPr
          try rw [hI]
          try rw [hdr]
          simp_all
        · skip
          refine AC_skip ?_
          refine hK10 _ _ _ ?_
          refine AC_region ?_
          first | refine AL_ev (Ev_add rfl rfl _ (wrap_id (by first | omega | (simp; omega)) (by first | omega | (simp; omega)))) rfl ?_ | refine AL_ev (Ev_add rfl rfl _ rfl) rfl ?_
          refine AL_ev (Ev_move) rfl ?_
          refine AL_nil ?_
          refine closeS (j + 1) [] rfl rfl (by show cs.length - (j + 1) < cs.length - j; omega) ⟨hlt, ?_⟩ BxTo_nil (SlTo_cons (by first | exact .rd .d | exact Vw_int (by first | rfl | assumption | omega | (simp; done) | (simp; omega)) | exact Vw_c (by first | rfl | (simp; done) | simp_all) | exact .any) (SlTo_cons (by first | exact .rd .d | exact .any) (SlTo_cons (by first | exact .rd .d | exact .any) SlTo_nil)))
          rw [hI, hdr, List.all_cons]
          simp_all
      · skip
        have hj2 : j = cs.length := by
          have : ¬ j < cs.length := by simpa using hc3
          omega
        subst hj2
        rw [List.drop_length] at hI
        refine AC_exit ?_
        refine hK6 _ _ _ ?_
        refine AC_seq fun K15 hK15 => ?_
        refine AC_region ?_
        refine AL_ev (Ev_assign) rfl ?_
        refine AL_nil ?_
        refine hK15 _ _ _ ?_
        refine AC_ret ?_
        refine ret_ok hdm (.tmp rfl rfl .nil) (.cons .d .nil) ?_
        rw [plainB_eq]
        have hpr := clsOf_any cs cPr
        try rw [hI]
        try rw [hdr]
        simp_all

set_option maxHeartbeats 1000000 in
set_option maxRecDepth 4000 in
theorem c_specPlainDb (d : Dbt) (hb : bulkD d ≤ 1099511627775) : PCall Tryd.prog 40 [injD d] (· = [.c (.bool (plainB d))]) := by
  obtain ⟨cs, op⟩ := d
  obtain ⟨hnc, hbc, hno, hbo⟩ := bulkD_bd hb
  refine PCall_of (n := 37) Tryd.func40 rfl rfl (Nat.le_of_ble_eq_true rfl) fun C hdm hT0 => ?_
  have hT := hT0
  refine AC_seq fun K1 hK1 => ?_
  refine AC_region ?_
  refine AL_box (Lay.st [.one, .one]) (nf rfl) rfl (by first | rfl | simp [Lay.len, Lay.lens]) _ rfl rfl ?_
  refine AL_ev (Ev_assign) rfl ?_
  refine AL_nil ?_
  refine hK1 _ _ _ ?_
  refine AC_seq fun K2 hK2 => ?_
  refine AC_seq fun K3 hK3 => ?_
  refine AC_region ?_
  refine AL_ev (Ev_assign) rfl ?_
  refine AL_nil ?_
  refine hK3 _ _ _ ?_
  refine AC_block ?_
  refine AC_loopS [] (Nat) (fun j => [(3, i64 j), (1, .d (.rp (Lay.st [.one, .one]) (injD ⟨cs, op⟩) []))]) (fun j => []) (fun st => cs.length - st) (fun j => j ≤ cs.length ∧ (cs.all fun c => (goalsIn c.b).2 && !decide (predS c.h = cPr)) = (cs.drop j).all fun c => (goalsIn c.b).2 && !decide (predS c.h = cPr)) (0) ?_ ?_ ?_
  · skip
    exact enterS [] rfl rfl BxTo_nil (SlTo_cons (by first | exact .rd .d | exact Vw_int (by first | rfl | assumption | omega | (simp; done) | (simp; omega)) | exact Vw_c (by first | rfl | (simp; done) | simp_all) | exact .any) (SlTo_cons (by first | exact .rd (.ptr (srcFree rfl) rfl rfl rfl .d) | exact .rd .d) SlTo_nil))
  · skip
    exact ⟨Nat.zero_le _, by simp⟩
  rintro j ⟨hj, hI⟩
  show AC _ _ _ _ _ (FS [] _ [(3, i64 j), (1, .d (.rp (Lay.st [.one, .one]) (injD ⟨cs, op⟩) []))]) []
  refine AC_seq fun K4 hK4 => ?_
  refine AC_seq fun K5 hK5 => ?_
  refine AC_region ?_
  refine AL_ev (Ev_move) rfl ?_
  first | refine AL_ev (Ev_fa_ptr rfl fa30_0 rfl rfl) rfl ?_ | refine AL_ev (Ev_fa_rp rfl fa30_0 rfl rfl) rfl ?_
  first | refine AL_ev (Ev_load_ptr rfl rfl rfl rfl rfl rfl ts28 ta28 rfl (fun _ => rfl)) rfl ?_ | refine AL_ev (Ev_load_rp rfl rfl rfl ts28 ta28 rfl (fun _ => rfl)) rfl ?_
  first | refine AL_lim (x := (Operand.tmp 8)) rfl fun hl1 => ?_ | refine AL_limB (x := (Operand.tmp 8)) rfl rfl (by first | rfl | (simp; done) | (simp; omega)) fun hl1 => ?_ | have hl1 := True.intro
  try simp only [injs_length, ints_length, strs_length, injCs_length, List.length_map] at hl1
  first | refine AL_ev (Ev_len_injCs te28 rfl) rfl ?_ | refine AL_ev (Ev_len_sl te28 rfl) rfl ?_ | refine AL_ev (Ev_len_ref te28 rfl) rfl ?_ | refine AL_ev (Ev_len_nil te28 rfl) rfl ?_ | refine AL_ev (Ev_len_c te28 rfl) rfl ?_
  refine AL_ev (Ev_lss rfl rfl) rfl ?_
  refine AL_nil ?_
  refine hK5 _ _ _ ?_
  refine AC_cond rfl (fun hc1 => ?_) (fun hc1 => ?_)
  · skip
    have hlt : j < cs.length := by simpa using hc1
    obtain ⟨u, hu⟩ : ∃ x, cs[j]? = some x := ⟨_, List.getElem?_eq_getElem hlt⟩
    have hu2 := injCs_get hu
    have hdr := drop_get hu
    obtain ⟨hbu, hbv, _⟩ := bulkCs_bd (List.mem_of_getElem? hu) hbc
    refine AC_skip ?_
    refine hK4 _ _ _ ?_
    refine AC_seq fun K6 hK6 => ?_
    refine AC_block ?_
    refine AC_seq fun K7 hK7 => ?_
    refine AC_region ?_
    first | refine AL_ev (Ev_fa_ptr rfl fa30_0 rfl rfl) rfl ?_ | refine AL_ev (Ev_fa_rp rfl fa30_0 rfl rfl) rfl ?_
    first | refine AL_ev (Ev_load_ptr rfl rfl rfl rfl rfl rfl ts28 ta28 rfl (fun _ => rfl)) rfl ?_ | refine AL_ev (Ev_load_rp rfl rfl rfl ts28 ta28 rfl (fun _ => rfl)) rfl ?_
    refine AL_ev (Ev_move) rfl ?_
    first | refine AL_ev (Ev_ix_sl rfl rfl te28 ts68 (by omega) (by assumption)) rfl ?_ | refine AL_ev (Ev_ix_ref rfl rfl te28 ts68 (by omega) (by first | omega | (simp; omega))) rfl ?_
    first | refine AL_ev (Ev_fa_ptr rfl fa68_1 rfl rfl) rfl ?_ | refine AL_ev (Ev_fa_rp rfl fa68_1 rfl rfl) rfl ?_
    first | refine AL_ev (Ev_load_ptr rfl rfl rfl rfl rfl rfl ts45 ta45 (by first | rfl | simp) (by intro h; cases h)) rfl ?_ | refine AL_ev (Ev_load_rp rfl rfl rfl ts45 ta45 (by first | rfl | simp) (by intro h; cases h)) rfl ?_
    refine AL_fcall0 hT rfl cl25 (c_specGoalsIn u.b (by omega)) rfl rfl ?_
    refine AL_ev (Ev_move) rfl ?_
    refine AL_ev (Ev_extract rfl rfl) rfl ?_
    refine AL_ev (Ev_extract rfl rfl) rfl ?_
    refine AL_ev (Ev_assign) rfl ?_
    refine AL_ev (Ev_assign) rfl ?_
    refine AL_nil ?_
    refine hK7 _ _ _ ?_
    refine AC_seq fun K8 hK8 => ?_
    refine AC_region ?_
    refine AL_ev (Ev_move) rfl ?_
    refine AL_ev (Ev_not rfl) rfl ?_
    refine AL_ev (Ev_move) rfl ?_
    refine AL_bool 25 rfl (fun hg2 => ?_) (fun hg2 => ?_)
    · skip
      refine AL_guard_f rfl rfl rfl rfl ?_
      refine AL_guard_f rfl rfl rfl rfl ?_
      refine AL_guard_f rfl rfl rfl rfl ?_
      refine AL_guard_f rfl rfl rfl rfl ?_
      refine AL_guard_f rfl rfl rfl rfl ?_
      refine AL_guard_f rfl rfl rfl rfl ?_
      refine AL_guard_f rfl rfl rfl rfl ?_
      refine AL_guard_f rfl rfl rfl rfl ?_
      refine AL_ev (Ev_pick rfl) rfl ?_
      refine AL_nil ?_
      refine hK8 _ _ _ ?_
      refine AC_cond_t rfl ?_
      refine AC_seq fun K9 hK9 => ?_
      refine AC_region ?_
      refine AL_ev (Ev_assign) rfl ?_
      refine AL_nil ?_
      refine hK9 _ _ _ ?_
      refine AC_ret ?_
      refine ret_ok hdm (.tmp rfl rfl .nil) (.cons .d .nil) ?_
      rw [plainB]
      try rw [hI]
      try rw [hdr]
      simp_all
    · skip
      refine AL_guard_t rfl rfl rfl ?_
      first | refine AL_ev (Ev_fa_ptr rfl fa30_0 rfl rfl) rfl ?_ | refine AL_ev (Ev_fa_rp rfl fa30_0 rfl rfl) rfl ?_
      refine AL_guard_t rfl rfl rfl ?_
      first | refine AL_ev (Ev_load_ptr rfl rfl rfl rfl rfl rfl ts28 ta28 rfl (fun _ => rfl)) rfl ?_ | refine AL_ev (Ev_load_rp rfl rfl rfl ts28 ta28 rfl (fun _ => rfl)) rfl ?_
      refine AL_guard_t rfl rfl rfl ?_
      refine AL_ev (Ev_move) rfl ?_
      refine AL_guard_t rfl rfl rfl ?_
      first | refine AL_ev (Ev_ix_sl rfl rfl te28 ts68 (by omega) (by assumption)) rfl ?_ | refine AL_ev (Ev_ix_ref rfl rfl te28 ts68 (by omega) (by first | omega | (simp; omega))) rfl ?_
      refine AL_guard_t rfl rfl rfl ?_
      first | refine AL_ev (Ev_fa_ptr rfl fa68_0 rfl rfl) rfl ?_ | refine AL_ev (Ev_fa_rp rfl fa68_0 rfl rfl) rfl ?_
      refine AL_guard_t rfl rfl rfl ?_
      first | refine AL_ev (Ev_load_ptr rfl rfl rfl rfl rfl rfl ts45 ta45 (by first | rfl | simp) (by intro h; cases h)) rfl ?_ | refine AL_ev (Ev_load_rp rfl rfl rfl ts45 ta45 (by first | rfl | simp) (by intro h; cases h)) rfl ?_
      refine AL_guard_t rfl rfl rfl ?_
      refine AL_fcall0 hT rfl cl60 (c_specPredOf u.h (by omega)) rfl rfl ?_
      refine AL_guard_t rfl rfl rfl ?_
      refine AL_ev (Ev_seql rfl rfl) rfl ?_
      refine AL_ev (Ev_pick rfl) rfl ?_
      refine AL_nil ?_
      refine hK8 _ _ _ ?_
      refine AC_cond rfl (fun hc3 => ?_) (fun hc3 => ?_)
      · skip
        refine AC_seq fun K10 hK10 => ?_
        refine AC_region ?_
        refine AL_ev (Ev_assign) rfl ?_
        refine AL_nil ?_
        refine hK10 _ _ _ ?_
        refine AC_ret ?_
        refine ret_ok hdm (.tmp rfl rfl .nil) (.cons .d .nil) ?_
        rw [plainB]
        try rw [hI]
        try rw [hdr]
        simp_all
      · skip
        refine AC_skip ?_
        refine hK6 _ _ _ ?_
        refine AC_region ?_
        refine AL_ev (Ev_move) rfl ?_
        first | refine AL_ev (Ev_add rfl rfl _ (wrap_id (by first | omega | (simp; omega)) (by first | omega | (simp; omega)))) rfl ?_ | refine AL_ev (Ev_add rfl rfl _ rfl) rfl ?_
        refine AL_ev (Ev_assign) rfl ?_
        refine AL_nil ?_
        refine closeS (j + 1) [] rfl rfl (by show cs.length - (j + 1) < cs.length - j; omega) ⟨hlt, ?_⟩ BxTo_nil (SlTo_cons (by first | exact .rd .d | exact Vw_int (by first | rfl | assumption | omega | (simp; done) | (simp; omega)) | exact Vw_c (by first | rfl | (simp; done) | simp_all) | exact .any) (SlTo_cons (by first | exact .rd (.ptr (srcFree rfl) rfl rfl rfl .d) | exact .rd .d) SlTo_nil))
        rw [hI, hdr, List.all_cons]
        simp_all
  · skip
    have hj2 : j = cs.length := by
      have : ¬ j < cs.length := by simpa using hc1
      omega
    subst hj2
    rw [List.drop_length] at hI
    refine AC_exit ?_
    refine hK2 _ _ _ ?_
    refine AC_seq fun K11 hK11 => ?_
    refine AC_region ?_
    first | refine AL_ev (Ev_load_ptr rfl rfl rfl rfl rfl rfl ts30 ta30 (by first | rfl | simp) (by intro h; cases h)) rfl ?_ | refine AL_ev (Ev_load_rp rfl rfl rfl ts30 ta30 (by first | rfl | simp) (by intro h; cases h)) rfl ?_
    refine AL_fcall0 hT rfl cl82 (c_specDbOk ⟨cs, op⟩ hb) rfl rfl ?_
    refine AL_ev (Ev_assign) rfl ?_
    refine AL_nil ?_
    refine hK11 _ _ _ ?_
    refine AC_ret ?_
    refine ret_ok hdm (.tmp rfl rfl .nil) (.cons .d .nil) ?_
    rw [plainB]
    try rw [hI]
    try rw [hdr]
    simp_all

end Go.Proofs.YtleahipnknainaaDoor
