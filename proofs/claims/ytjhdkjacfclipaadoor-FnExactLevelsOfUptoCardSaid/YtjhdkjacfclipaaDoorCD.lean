/- Contracts of functions. -/
import Derived.Test.YtjhdkjacfclipaaDoorMt
import Derived.Test.YtjhdkjacfclipaaDoorOk
import Derived.Test.YtjhdkjacfclipaaDoorWn
import Derived.Test.YtjhdkjacfclipaaDoorEng27
import Derived.Test.YtjhdkjacfclipaaDoorProg
import Derived.KernelRfl
import Derived.Test.YtjhdkjacfclipaaDoorCA
set_option linter.unusedVariables false
set_option linter.unusedSimpArgs false
namespace Go.Proofs.YtjhdkjacfclipaaDoor
open Go.Eng

theorem cl60 : Callable Tryd.prog 60 := Callable_of Tryd.func60 (by kernel_rfl) (by kernel_rfl)

set_option maxHeartbeats 1000000 in
set_option maxRecDepth 4000 in
theorem c_figure (x : Int) (h0 : 0 ≤ x) (h1 : x ≤ 9) : PCall Tryd.prog 60 [.c (.int .i64 x)] (· = [.c (.int .u8 (48 + x))]) := by
  refine PCall_of (n := 12) Tryd.func60 rfl rfl (Nat.le_of_ble_eq_true rfl) fun C hdm hT0 => ?_
  have hT := hT0
  refine AC_seq fun K1 hK1 => ?_
  refine AC_region ?_
  refine AL_ev (Ev_assign) rfl ?_
  refine AL_nil ?_
  refine hK1 _ _ _ ?_
  refine AC_seq fun K2 hK2 => ?_
  refine AC_seq fun K3 hK3 => ?_
  refine AC_region ?_
  refine AL_ev (Ev_move) rfl ?_
  refine AL_ev (Ev_lss rfl rfl) rfl ?_
  refine AL_nil ?_
  refine hK3 _ _ _ ?_
  refine AC_cond rfl (fun hc1 => ?_) (fun hc1 => ?_)
  · skip
    refine AC_seq fun K4 hK4 => ?_
    refine AC_region ?_
    refine AL_ev (Ev_move) rfl ?_
    first | refine AL_ev (Ev_add rfl rfl _ (wrap_id (by first | omega | (simp; omega)) (by first | omega | (simp; omega)))) rfl ?_ | refine AL_ev (Ev_add rfl rfl _ rfl) rfl ?_
    refine AL_ev (Ev_conv_int tund3 tint5 rfl _ rfl) rfl ?_
    refine AL_ev (Ev_assign) rfl ?_
    refine AL_nil ?_
    refine hK4 _ _ _ ?_
    refine AC_ret ?_
    refine ret_ok hdm (.tmp rfl rfl .nil) (.cons .d .nil) ?_
    rw [wrap8 _ (by omega) (by omega)]
  · skip
    have : ¬ x < 10 := by simpa using hc1
    omega

set_option maxHeartbeats 1000000 in
set_option maxRecDepth 4000 in
theorem c_specDecimal (n : Int) (h0 : 0 ≤ n) (h1 : n ≤ 9223372036854775807) : PCall Tryd.prog 47 [.c (.int .i64 n)] (· = [.c (.string (dec n))]) := by
  refine PCall_of (n := 30) Tryd.func47 rfl rfl (Nat.le_of_ble_eq_true rfl) fun C hdm hT0 => ?_
  have hT := hT0
  refine AC_seq fun K1 hK1 => ?_
  refine AC_region ?_
  refine AL_ev (Ev_assign) rfl ?_
  refine AL_nil ?_
  refine hK1 _ _ _ ?_
  refine AC_seq fun K2 hK2 => ?_
  refine AC_seq fun K3 hK3 => ?_
  refine AC_region ?_
  refine AL_ev (Ev_move) rfl ?_
  refine AL_ev (Ev_eql rfl rfl) rfl ?_
  refine AL_nil ?_
  refine hK3 _ _ _ ?_
  refine AC_cond rfl (fun hc1 => ?_) (fun hc1 => ?_)
  · skip
    refine AC_seq fun K4 hK4 => ?_
    refine AC_region ?_
    refine AL_ev (Ev_assign) rfl ?_
    refine AL_nil ?_
    refine hK4 _ _ _ ?_
    refine AC_ret ?_
    refine ret_ok hdm (.tmp rfl rfl .nil) (.cons .d .nil) ?_
    have : n = 0 := by simpa using hc1
    subst this
    rw [dec_zero]
  · skip
    refine AC_skip ?_
    refine hK2 _ _ _ ?_
    refine AC_seq fun K5 hK5 => ?_
    refine AC_region ?_
    refine AL_ev (Ev_move) rfl ?_
    refine AL_ev (Ev_lss rfl rfl) rfl ?_
    refine AL_ev (Ev_assign) rfl ?_
    refine AL_nil ?_
    refine hK5 _ _ _ ?_
    refine AC_seq fun K6 hK6 => ?_
    refine AC_region ?_
    refine AL_ev (Ev_assign) rfl ?_
    refine AL_nil ?_
    refine hK6 _ _ _ ?_
    refine AC_seq fun K7 hK7 => ?_
    refine AC_block ?_
    refine AC_loopS [3] (Int × ByteArray) (fun ⟨q, s⟩ => [(0, i64 q), (4, st s)]) (fun ⟨q, s⟩ => []) (fun st => st.1.toNat) (fun ⟨q, s⟩ => (Lib.decDigits n.toNat = toCome q ++ s.data.toList ∧ 0 ≤ q ∧ q ≤ n)) ((n, ⟨#[]⟩)) ?_ ?_ ?_
    · skip
      exact enterS [] rfl rfl BxTo_nil (SlTo_cons (by first | exact .rd .d | exact Vw_int (by first | rfl | assumption | omega | (simp; done) | (simp; omega)) | exact Vw_c (by first | rfl | (simp; done) | simp_all) | exact .any) (SlTo_cons (by first | exact .rd .d | exact Vw_int (by first | rfl | assumption | omega | (simp; done) | (simp; omega)) | exact Vw_c (by first | rfl | (simp; done) | simp_all) | exact .any) (SlTo_cons (by first | exact .rd .d | exact .any) SlTo_nil)))
    · skip
      have : ¬ n = 0 := by simpa using hc1
      exact ⟨by simp [toCome, this], h0, Int.le_refl _⟩
    rintro ⟨q, s⟩ ⟨hI, hq0, hq1⟩
    show AC _ _ _ _ _ (FS [3] _ [(0, i64 q), (4, st s)]) []
    refine AC_seq fun K8 hK8 => ?_
    refine AC_seq fun K9 hK9 => ?_
    refine AC_region ?_
    refine AL_ev (Ev_move) rfl ?_
    refine AL_ev (Ev_neq rfl rfl) rfl ?_
    refine AL_nil ?_
    refine hK9 _ _ _ ?_
    refine AC_cond rfl (fun hc2 => ?_) (fun hc2 => ?_)
    · skip
      have hqp : 0 < q := by
        have : ¬ q = 0 := by simpa using hc2
        omega
      have ht := tdm10 hqp
      have hwq : IntKind.i64.wrap (q.tdiv 10) = q.tdiv 10 := wrap_id (by omega) (by omega)
      have hfi : (48 + q.tmod 10).toNat = 48 + (q.tmod 10).toNat := by omega
      have hsz := congrArg List.length hI
      have hdl := Lib.itoa_length_le n (by omega) (by omega)
      have hit : Lib.itoa n = Lib.decDigits n.toNat := by unfold Lib.itoa; rw [if_neg (by omega)]
      have hb8 : (strOfNums [48 + q.tmod 10]).size + s.size ≤ 4611686018427387904 := by
        rw [strOfNums_size]
        rw [hit] at hdl
        have : s.data.toList.length = s.size := by simp
        rw [List.length_append] at hsz
        simp only [List.length_singleton]
        omega
      refine AC_skip ?_
      refine hK8 _ _ _ ?_
      refine AC_block ?_
      refine AC_seq fun K10 hK10 => ?_
      refine AC_region ?_
      refine AL_ev (Ev_move) rfl ?_
      refine AL_ev (Ev_rem rfl rfl (by decide)) rfl ?_
      refine AL_ev (Ev_assign) rfl ?_
      refine AL_nil ?_
      refine hK10 _ _ _ ?_
      refine AC_seq fun K11 hK11 => ?_
      refine AC_seq fun K12 hK12 => ?_
      refine AC_region ?_
      refine AL_ev (Ev_move) rfl ?_
      refine AL_ev (Ev_lss rfl rfl) rfl ?_
      refine AL_nil ?_
      refine hK12 _ _ _ ?_
      refine AC_cond rfl (fun hc3 => ?_) (fun hc3 => ?_)
      · skip
        have : q.tmod 10 < 0 := by simpa using hc3
        omega
      · skip
        refine AC_skip ?_
        refine hK11 _ _ _ ?_
        refine AC_seq fun K13 hK13 => ?_
        refine AC_region ?_
        refine AL_ev (Ev_move) rfl ?_
        refine AL_fcall0 hT rfl cl60 (c_figure (q.tmod 10) (by omega) (by omega)) rfl rfl ?_
        first | refine AL_bD .one rfl te81 ts5 tz5 rfl rfl (by decide) (by decide) (by first | rfl | simp [lenDs, goodVs, goodV, V.known, Lay.len, Lay.lens]) rfl ?_ | refine AL_bV .one rfl te81 ts5 tz5 rfl rfl (by decide) (by decide) (by first | rfl | simp [lenDs, goodVs, goodV, V.known, Lay.len, Lay.lens]) _ rfl rfl ?_
        refine AL_ev (Ev_conv_bytes [_] te81 tint5 tstr9 rfl Nat.one_pos) rfl ?_
        refine AL_ev (Ev_move) rfl ?_
        refine AL_ev (Ev_sadd rfl rfl (by first | assumption | omega)) rfl ?_
        refine AL_ev (Ev_assign) rfl ?_
        refine AL_nil ?_
        refine hK13 _ _ _ ?_
        refine AC_region ?_
        refine AL_ev (Ev_move) rfl ?_
        refine AL_ev (Ev_quo rfl rfl (by decide) _ rfl) rfl ?_
        refine AL_ev (Ev_assign) rfl ?_
        refine AL_nil ?_
        refine closeS (q.tdiv 10, strOfNums [48 + q.tmod 10] ++ s) [] rfl rfl (by show (q.tdiv 10).toNat < q.toNat; omega) ?_ BxTo_nil (SlTo_cons (by first | exact .rd .d | exact Vw_int (by first | rfl | assumption | omega | (simp; done) | (simp; omega)) | exact Vw_c (by first | rfl | (simp; done) | simp_all) | exact .any) (SlTo_cons (by first | exact .rd .d | exact Vw_int (by first | rfl | assumption | omega | (simp; done) | (simp; omega)) | exact Vw_c (by first | rfl | (simp; done) | simp_all) | exact .any) (SlTo_cons (by first | exact .rd .d | exact .any) SlTo_nil)))
        exact ⟨by rw [hI, toCome_step hqp, ba_app, strOfNums_data]; simp [hfi], by omega, by omega⟩
    · skip
      refine AC_exit ?_
      refine hK7 _ _ _ ?_
      refine AC_seq fun K14 hK14 => ?_
      refine AC_seq fun K15 hK15 => ?_
      refine AC_region ?_
      refine AL_ev (Ev_move) rfl ?_
      refine AL_nil ?_
      refine hK15 _ _ _ ?_
      refine AC_cond rfl (fun hc4 => ?_) (fun hc4 => ?_)
      · skip
        have : n < 0 := by simpa using hc4
        omega
      · skip
        refine AC_skip ?_
        refine hK14 _ _ _ ?_
        refine AC_seq fun K16 hK16 => ?_
        refine AC_region ?_
        refine AL_ev (Ev_move) rfl ?_
        refine AL_ev (Ev_assign) rfl ?_
        refine AL_nil ?_
        refine hK16 _ _ _ ?_
        refine AC_ret ?_
        refine ret_ok hdm (.tmp rfl rfl .nil) (.cons .d .nil) ?_
        have hqz : q = 0 := by simpa using hc2
        subst hqz
        congr 3
        refine ba_ext ?_
        rw [dec_pos h0, hI]
        simp [toCome]

end Go.Proofs.YtjhdkjacfclipaaDoor
