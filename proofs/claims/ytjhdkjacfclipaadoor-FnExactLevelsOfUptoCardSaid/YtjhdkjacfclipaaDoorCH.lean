/- Contracts of functions. -/
import Derived.Test.YtjhdkjacfclipaaDoorMt
import Derived.Test.YtjhdkjacfclipaaDoorOk
import Derived.Test.YtjhdkjacfclipaaDoorWn
import Derived.Test.YtjhdkjacfclipaaDoorEng27
import Derived.Test.YtjhdkjacfclipaaDoorCs
import Derived.Test.YtjhdkjacfclipaaDoorProg
import Derived.KernelRfl
import Derived.Test.YtjhdkjacfclipaaDoorCA
import Derived.Test.YtjhdkjacfclipaaDoorCC
import Derived.Test.YtjhdkjacfclipaaDoorCF
import Derived.Test.YtjhdkjacfclipaaDoorCG
set_option linter.unusedVariables false
set_option linter.unusedSimpArgs false
namespace Go.Proofs.YtjhdkjacfclipaaDoor
open Go.Eng

theorem cl24 : Callable Tryd.prog 24 := Callable_of Tryd.func24 (by kernel_rfl) (by kernel_rfl)
theorem cl41 : Callable Tryd.prog 41 := Callable_of Tryd.func41 (by kernel_rfl) (by kernel_rfl)

set_option maxHeartbeats 1000000 in
set_option maxRecDepth 4000 in
theorem c_control (s : ByteArray) : PCall Tryd.prog 41 [.c (.string s)] (· = [.c (.bool (ctlB s))]) := by
  refine PCall_of (n := 8) Tryd.func41 rfl rfl (Nat.le_of_ble_eq_true rfl) fun C hdm hT0 => ?_
  have hT := hT0
  refine AC_seq fun K1 hK1 => ?_
  refine AC_region ?_
  refine AL_ev (Ev_assign) rfl ?_
  refine AL_nil ?_
  refine hK1 _ _ _ ?_
  refine AC_seq fun K2 hK2 => ?_
  refine AC_region ?_
  first | refine AL_bD .one rfl te23 ts9 tz9 rfl rfl (by decide) (by decide) (by first | rfl | simp [lenDs, goodVs, goodV, V.known, Lay.len, Lay.lens]) rfl ?_ | refine AL_bV .one rfl te23 ts9 tz9 rfl rfl (by decide) (by decide) (by first | rfl | simp [lenDs, goodVs, goodV, V.known, Lay.len, Lay.lens]) _ rfl rfl ?_
  refine AL_ev (Ev_assign) rfl ?_
  refine AL_nil ?_
  refine hK2 _ _ _ ?_
  refine AC_seq fun K3 hK3 => ?_
  refine AC_region ?_
  refine AL_ev (Ev_move) rfl ?_
  refine AL_ev (Ev_move) rfl ?_
  refine AL_fcall0 hT rfl cl54 (c_containsS ctlL s) rfl rfl ?_
  refine AL_ev (Ev_assign) rfl ?_
  refine AL_nil ?_
  refine hK3 _ _ _ ?_
  refine AC_ret ?_
  exact ret_ok hdm (.tmp rfl rfl .nil) (.cons .d .nil) rfl

set_option maxHeartbeats 1000000 in
set_option maxRecDepth 4000 in
theorem c_specControl (s : ByteArray) : PCall Tryd.prog 52 [.c (.string s)] (· = [.c (.bool (ctlB s))]) := by
  refine PCall_of (n := 32) Tryd.func52 rfl rfl (Nat.le_of_ble_eq_true rfl) fun C hdm hT0 => ?_
  have hT := hT0
  refine AC_seq fun K1 hK1 => ?_
  refine AC_region ?_
  refine AL_ev (Ev_assign) rfl ?_
  refine AL_nil ?_
  refine hK1 _ _ _ ?_
  refine AC_seq fun K2 hK2 => ?_
  refine AC_seq fun K3 hK3 => ?_
  refine AC_region ?_
  refine AL_ev (Ev_move) rfl ?_
  refine AL_nil ?_
  refine hK3 _ _ _ ?_
  refine AC_block ?_
  refine AC_seq fun K4 hK4 => ?_
  refine AC_seq fun K5 hK5 => ?_
  refine AC_region ?_
  refine AL_ev (Ev_seql rfl rfl) rfl ?_
  refine AL_ev (Ev_assign) rfl ?_
  refine AL_nil ?_
  refine hK5 _ _ _ ?_
  refine AC_cond rfl (fun hc1 => ?_) (fun hc1 => ?_)
  · skip
    refine AC_skip ?_
    refine hK4 _ _ _ ?_
    first | refine AC_cond_t rfl ?_ | refine AC_cond_t (congrArg bl hc1) ?_
    refine AC_seq fun K6 hK6 => ?_
    refine AC_region ?_
    refine AL_ev (Ev_assign) rfl ?_
    refine AL_nil ?_
    refine hK6 _ _ _ ?_
    refine AC_ret ?_
    refine ret_ok hdm (.tmp rfl rfl .nil) (.cons .d .nil) ?_
    simp only [decide_eq_true_eq, decide_eq_false_iff_not] at *
    first
      | (subst_vars; rfl)
      | (have hcf : ctlB s = false := by
          simp only [ctlB, ctlL, hasS, Bool.or_false, Bool.or_eq_false_iff, decide_eq_false_iff_not]
          and_intros <;> (intro h; subst h; simp_all)
         rw [hcf])
  · skip
    refine AC_seq fun K7 hK7 => ?_
    refine AC_region ?_
    refine AL_ev (Ev_seql rfl rfl) rfl ?_
    refine AL_ev (Ev_assign) rfl ?_
    refine AL_nil ?_
    refine hK7 _ _ _ ?_
    refine AC_cond rfl (fun hc2 => ?_) (fun hc2 => ?_)
    · skip
      refine AC_skip ?_
      refine hK4 _ _ _ ?_
      first | refine AC_cond_t rfl ?_ | refine AC_cond_t (congrArg bl hc2) ?_
      refine AC_seq fun K8 hK8 => ?_
      refine AC_region ?_
      refine AL_ev (Ev_assign) rfl ?_
      refine AL_nil ?_
      refine hK8 _ _ _ ?_
      refine AC_ret ?_
      refine ret_ok hdm (.tmp rfl rfl .nil) (.cons .d .nil) ?_
      simp only [decide_eq_true_eq, decide_eq_false_iff_not] at *
      first
        | (subst_vars; rfl)
        | (have hcf : ctlB s = false := by
            simp only [ctlB, ctlL, hasS, Bool.or_false, Bool.or_eq_false_iff, decide_eq_false_iff_not]
            and_intros <;> (intro h; subst h; simp_all)
           rw [hcf])
    · skip
      refine AC_seq fun K9 hK9 => ?_
      refine AC_region ?_
      refine AL_ev (Ev_seql rfl rfl) rfl ?_
      refine AL_ev (Ev_assign) rfl ?_
      refine AL_nil ?_
      refine hK9 _ _ _ ?_
      refine AC_cond rfl (fun hc3 => ?_) (fun hc3 => ?_)
      · skip
        refine AC_skip ?_
        refine hK4 _ _ _ ?_
        first | refine AC_cond_t rfl ?_ | refine AC_cond_t (congrArg bl hc3) ?_
        refine AC_seq fun K10 hK10 => ?_
        refine AC_region ?_
        refine AL_ev (Ev_assign) rfl ?_
        refine AL_nil ?_
        refine hK10 _ _ _ ?_
        refine AC_ret ?_
        refine ret_ok hdm (.tmp rfl rfl .nil) (.cons .d .nil) ?_
        simp only [decide_eq_true_eq, decide_eq_false_iff_not] at *
        first
          | (subst_vars; rfl)
          | (have hcf : ctlB s = false := by
              simp only [ctlB, ctlL, hasS, Bool.or_false, Bool.or_eq_false_iff, decide_eq_false_iff_not]
              and_intros <;> (intro h; subst h; simp_all)
             rw [hcf])
      · skip
        refine AC_seq fun K11 hK11 => ?_
        refine AC_region ?_
        refine AL_ev (Ev_seql rfl rfl) rfl ?_
        refine AL_ev (Ev_assign) rfl ?_
        refine AL_nil ?_
        refine hK11 _ _ _ ?_
        refine AC_cond rfl (fun hc4 => ?_) (fun hc4 => ?_)
        · skip
          refine AC_skip ?_
          refine hK4 _ _ _ ?_
          first | refine AC_cond_t rfl ?_ | refine AC_cond_t (congrArg bl hc4) ?_
          refine AC_seq fun K12 hK12 => ?_
          refine AC_region ?_
          refine AL_ev (Ev_assign) rfl ?_
          refine AL_nil ?_
          refine hK12 _ _ _ ?_
          refine AC_ret ?_
          refine ret_ok hdm (.tmp rfl rfl .nil) (.cons .d .nil) ?_
          simp only [decide_eq_true_eq, decide_eq_false_iff_not] at *
          first
            | (subst_vars; rfl)
            | (have hcf : ctlB s = false := by
                simp only [ctlB, ctlL, hasS, Bool.or_false, Bool.or_eq_false_iff, decide_eq_false_iff_not]
                and_intros <;> (intro h; subst h; simp_all)
               rw [hcf])
        · skip
          refine AC_seq fun K13 hK13 => ?_
          refine AC_region ?_
          refine AL_ev (Ev_seql rfl rfl) rfl ?_
          refine AL_ev (Ev_assign) rfl ?_
          refine AL_nil ?_
          refine hK13 _ _ _ ?_
          refine AC_cond rfl (fun hc5 => ?_) (fun hc5 => ?_)
          · skip
            refine AC_skip ?_
            refine hK4 _ _ _ ?_
            first | refine AC_cond_t rfl ?_ | refine AC_cond_t (congrArg bl hc5) ?_
            refine AC_seq fun K14 hK14 => ?_
            refine AC_region ?_
            refine AL_ev (Ev_assign) rfl ?_
            refine AL_nil ?_
            refine hK14 _ _ _ ?_
            refine AC_ret ?_
            refine ret_ok hdm (.tmp rfl rfl .nil) (.cons .d .nil) ?_
            simp only [decide_eq_true_eq, decide_eq_false_iff_not] at *
            first
              | (subst_vars; rfl)
              | (have hcf : ctlB s = false := by
                  simp only [ctlB, ctlL, hasS, Bool.or_false, Bool.or_eq_false_iff, decide_eq_false_iff_not]
                  and_intros <;> (intro h; subst h; simp_all)
                 rw [hcf])
          · skip
            refine AC_seq fun K15 hK15 => ?_
            refine AC_region ?_
            refine AL_ev (Ev_seql rfl rfl) rfl ?_
            refine AL_ev (Ev_assign) rfl ?_
            refine AL_nil ?_
            refine hK15 _ _ _ ?_
            refine AC_cond rfl (fun hc6 => ?_) (fun hc6 => ?_)
            · skip
              refine AC_skip ?_
              refine hK4 _ _ _ ?_
              first | refine AC_cond_t rfl ?_ | refine AC_cond_t (congrArg bl hc6) ?_
              refine AC_seq fun K16 hK16 => ?_
              refine AC_region ?_
              refine AL_ev (Ev_assign) rfl ?_
              refine AL_nil ?_
              refine hK16 _ _ _ ?_
              refine AC_ret ?_
              refine ret_ok hdm (.tmp rfl rfl .nil) (.cons .d .nil) ?_
              simp only [decide_eq_true_eq, decide_eq_false_iff_not] at *
              first
                | (subst_vars; rfl)
                | (have hcf : ctlB s = false := by
                    simp only [ctlB, ctlL, hasS, Bool.or_false, Bool.or_eq_false_iff, decide_eq_false_iff_not]
                    and_intros <;> (intro h; subst h; simp_all)
                   rw [hcf])
            · skip
              refine AC_seq fun K17 hK17 => ?_
              refine AC_region ?_
              refine AL_ev (Ev_seql rfl rfl) rfl ?_
              refine AL_ev (Ev_assign) rfl ?_
              refine AL_nil ?_
              refine hK17 _ _ _ ?_
              refine AC_cond rfl (fun hc7 => ?_) (fun hc7 => ?_)
              · skip
                refine AC_skip ?_
                refine hK4 _ _ _ ?_
                first | refine AC_cond_t rfl ?_ | refine AC_cond_t (congrArg bl hc7) ?_
                refine AC_seq fun K18 hK18 => ?_
                refine AC_region ?_
                refine AL_ev (Ev_assign) rfl ?_
                refine AL_nil ?_
                refine hK18 _ _ _ ?_
                refine AC_ret ?_
                refine ret_ok hdm (.tmp rfl rfl .nil) (.cons .d .nil) ?_
                simp only [decide_eq_true_eq, decide_eq_false_iff_not] at *
                first
                  | (subst_vars; rfl)
                  | (have hcf : ctlB s = false := by
                      simp only [ctlB, ctlL, hasS, Bool.or_false, Bool.or_eq_false_iff, decide_eq_false_iff_not]
                      and_intros <;> (intro h; subst h; simp_all)
                     rw [hcf])
              · skip
                refine AC_seq fun K19 hK19 => ?_
                refine AC_region ?_
                refine AL_ev (Ev_seql rfl rfl) rfl ?_
                refine AL_ev (Ev_assign) rfl ?_
                refine AL_nil ?_
                refine hK19 _ _ _ ?_
                refine AC_cond rfl (fun hc8 => ?_) (fun hc8 => ?_)
                · skip
                  refine AC_skip ?_
                  refine hK4 _ _ _ ?_
                  first | refine AC_cond_t rfl ?_ | refine AC_cond_t (congrArg bl hc8) ?_
                  refine AC_seq fun K20 hK20 => ?_
                  refine AC_region ?_
                  refine AL_ev (Ev_assign) rfl ?_
                  refine AL_nil ?_
                  refine hK20 _ _ _ ?_
                  refine AC_ret ?_
                  refine ret_ok hdm (.tmp rfl rfl .nil) (.cons .d .nil) ?_
                  simp only [decide_eq_true_eq, decide_eq_false_iff_not] at *
                  first
                    | (subst_vars; rfl)
                    | (have hcf : ctlB s = false := by
                        simp only [ctlB, ctlL, hasS, Bool.or_false, Bool.or_eq_false_iff, decide_eq_false_iff_not]
                        and_intros <;> (intro h; subst h; simp_all)
                       rw [hcf])
                · skip
                  refine AC_seq fun K21 hK21 => ?_
                  refine AC_region ?_
                  refine AL_ev (Ev_seql rfl rfl) rfl ?_
                  refine AL_ev (Ev_assign) rfl ?_
                  refine AL_nil ?_
                  refine hK21 _ _ _ ?_
                  refine AC_cond rfl (fun hc9 => ?_) (fun hc9 => ?_)
                  · skip
                    refine AC_skip ?_
                    refine hK4 _ _ _ ?_
                    first | refine AC_cond_t rfl ?_ | refine AC_cond_t (congrArg bl hc9) ?_
                    refine AC_seq fun K22 hK22 => ?_
                    refine AC_region ?_
                    refine AL_ev (Ev_assign) rfl ?_
                    refine AL_nil ?_
                    refine hK22 _ _ _ ?_
                    refine AC_ret ?_
                    refine ret_ok hdm (.tmp rfl rfl .nil) (.cons .d .nil) ?_
                    simp only [decide_eq_true_eq, decide_eq_false_iff_not] at *
                    first
                      | (subst_vars; rfl)
                      | (have hcf : ctlB s = false := by
                          simp only [ctlB, ctlL, hasS, Bool.or_false, Bool.or_eq_false_iff, decide_eq_false_iff_not]
                          and_intros <;> (intro h; subst h; simp_all)
                         rw [hcf])
                  · skip
                    refine AC_seq fun K23 hK23 => ?_
                    refine AC_region ?_
                    refine AL_ev (Ev_seql rfl rfl) rfl ?_
                    refine AL_ev (Ev_assign) rfl ?_
                    refine AL_nil ?_
                    refine hK23 _ _ _ ?_
                    refine AC_cond rfl (fun hc10 => ?_) (fun hc10 => ?_)
                    · skip
                      refine AC_skip ?_
                      refine hK4 _ _ _ ?_
                      first | refine AC_cond_t rfl ?_ | refine AC_cond_t (congrArg bl hc10) ?_
                      refine AC_seq fun K24 hK24 => ?_
                      refine AC_region ?_
                      refine AL_ev (Ev_assign) rfl ?_
                      refine AL_nil ?_
                      refine hK24 _ _ _ ?_
                      refine AC_ret ?_
                      refine ret_ok hdm (.tmp rfl rfl .nil) (.cons .d .nil) ?_
                      simp only [decide_eq_true_eq, decide_eq_false_iff_not] at *
                      first
                        | (subst_vars; rfl)
                        | (have hcf : ctlB s = false := by
                            simp only [ctlB, ctlL, hasS, Bool.or_false, Bool.or_eq_false_iff, decide_eq_false_iff_not]
                            and_intros <;> (intro h; subst h; simp_all)
                           rw [hcf])
                    · skip
                      refine AC_seq fun K25 hK25 => ?_
                      refine AC_region ?_
                      refine AL_ev (Ev_seql rfl rfl) rfl ?_
                      refine AL_ev (Ev_assign) rfl ?_
                      refine AL_nil ?_
                      refine hK25 _ _ _ ?_
                      refine AC_cond rfl (fun hc11 => ?_) (fun hc11 => ?_)
                      · skip
                        refine AC_skip ?_
                        refine hK4 _ _ _ ?_
                        first | refine AC_cond_t rfl ?_ | refine AC_cond_t (congrArg bl hc11) ?_
                        refine AC_seq fun K26 hK26 => ?_
                        refine AC_region ?_
                        refine AL_ev (Ev_assign) rfl ?_
                        refine AL_nil ?_
                        refine hK26 _ _ _ ?_
                        refine AC_ret ?_
                        refine ret_ok hdm (.tmp rfl rfl .nil) (.cons .d .nil) ?_
                        simp only [decide_eq_true_eq, decide_eq_false_iff_not] at *
                        first
                          | (subst_vars; rfl)
                          | (have hcf : ctlB s = false := by
                              simp only [ctlB, ctlL, hasS, Bool.or_false, Bool.or_eq_false_iff, decide_eq_false_iff_not]
                              and_intros <;> (intro h; subst h; simp_all)
                             rw [hcf])
                      · skip
                        refine AC_region ?_
                        refine AL_ev (Ev_seql rfl rfl) rfl ?_
                        refine AL_ev (Ev_assign) rfl ?_
                        refine AL_nil ?_
                        refine hK4 _ _ _ ?_
                        refine AC_cond rfl (fun hc12 => ?_) (fun hc12 => ?_)
                        · skip
                          refine AC_seq fun K27 hK27 => ?_
                          refine AC_region ?_
                          refine AL_ev (Ev_assign) rfl ?_
                          refine AL_nil ?_
                          refine hK27 _ _ _ ?_
                          refine AC_ret ?_
                          refine ret_ok hdm (.tmp rfl rfl .nil) (.cons .d .nil) ?_
                          simp only [decide_eq_true_eq, decide_eq_false_iff_not] at *
                          first
                            | (subst_vars; rfl)
                            | (have hcf : ctlB s = false := by
                                simp only [ctlB, ctlL, hasS, Bool.or_false, Bool.or_eq_false_iff, decide_eq_false_iff_not]
                                and_intros <;> (intro h; subst h; simp_all)
                               rw [hcf])
                        · skip
                          refine AC_seq fun K28 hK28 => ?_
                          refine AC_seq fun K29 hK29 => ?_
                          refine AC_region ?_
                          refine AL_ev (Ev_seql rfl rfl) rfl ?_
                          refine AL_ev (Ev_assign) rfl ?_
                          refine AL_nil ?_
                          refine hK29 _ _ _ ?_
                          refine AC_cond rfl (fun hc13 => ?_) (fun hc13 => ?_)
                          · skip
                            refine AC_skip ?_
                            refine hK28 _ _ _ ?_
                            first | refine AC_cond_t rfl ?_ | refine AC_cond_t (congrArg bl hc13) ?_
                            refine AC_seq fun K30 hK30 => ?_
                            refine AC_region ?_
                            refine AL_ev (Ev_assign) rfl ?_
                            refine AL_nil ?_
                            refine hK30 _ _ _ ?_
                            refine AC_ret ?_
                            refine ret_ok hdm (.tmp rfl rfl .nil) (.cons .d .nil) ?_
                            simp only [decide_eq_true_eq, decide_eq_false_iff_not] at *
                            first
                              | (subst_vars; rfl)
                              | (have hcf : ctlB s = false := by
                                  simp only [ctlB, ctlL, hasS, Bool.or_false, Bool.or_eq_false_iff, decide_eq_false_iff_not]
                                  and_intros <;> (intro h; subst h; simp_all)
                                 rw [hcf])
                          · skip
                            refine AC_seq fun K31 hK31 => ?_
                            refine AC_region ?_
                            refine AL_ev (Ev_seql rfl rfl) rfl ?_
                            refine AL_ev (Ev_assign) rfl ?_
                            refine AL_nil ?_
                            refine hK31 _ _ _ ?_
                            refine AC_cond rfl (fun hc14 => ?_) (fun hc14 => ?_)
                            · skip
                              refine AC_skip ?_
                              refine hK28 _ _ _ ?_
                              first | refine AC_cond_t rfl ?_ | refine AC_cond_t (congrArg bl hc14) ?_
                              refine AC_seq fun K32 hK32 => ?_
                              refine AC_region ?_
                              refine AL_ev (Ev_assign) rfl ?_
                              refine AL_nil ?_
                              refine hK32 _ _ _ ?_
                              refine AC_ret ?_
                              refine ret_ok hdm (.tmp rfl rfl .nil) (.cons .d .nil) ?_
                              simp only [decide_eq_true_eq, decide_eq_false_iff_not] at *
                              first
                                | (subst_vars; rfl)
                                | (have hcf : ctlB s = false := by
                                    simp only [ctlB, ctlL, hasS, Bool.or_false, Bool.or_eq_false_iff, decide_eq_false_iff_not]
                                    and_intros <;> (intro h; subst h; simp_all)
                                   rw [hcf])
                            · skip
                              refine AC_seq fun K33 hK33 => ?_
                              refine AC_region ?_
                              refine AL_ev (Ev_seql rfl rfl) rfl ?_
                              refine AL_ev (Ev_assign) rfl ?_
                              refine AL_nil ?_
                              refine hK33 _ _ _ ?_
                              refine AC_cond rfl (fun hc15 => ?_) (fun hc15 => ?_)
                              · skip
                                refine AC_skip ?_
                                refine hK28 _ _ _ ?_
                                first | refine AC_cond_t rfl ?_ | refine AC_cond_t (congrArg bl hc15) ?_
                                refine AC_seq fun K34 hK34 => ?_
                                refine AC_region ?_
                                refine AL_ev (Ev_assign) rfl ?_
                                refine AL_nil ?_
                                refine hK34 _ _ _ ?_
                                refine AC_ret ?_
                                refine ret_ok hdm (.tmp rfl rfl .nil) (.cons .d .nil) ?_
                                simp only [decide_eq_true_eq, decide_eq_false_iff_not] at *
                                first
                                  | (subst_vars; rfl)
                                  | (have hcf : ctlB s = false := by
                                      simp only [ctlB, ctlL, hasS, Bool.or_false, Bool.or_eq_false_iff, decide_eq_false_iff_not]
                                      and_intros <;> (intro h; subst h; simp_all)
                                     rw [hcf])
                              · skip
                                refine AC_seq fun K35 hK35 => ?_
                                refine AC_region ?_
                                refine AL_ev (Ev_seql rfl rfl) rfl ?_
                                refine AL_ev (Ev_assign) rfl ?_
                                refine AL_nil ?_
                                refine hK35 _ _ _ ?_
                                refine AC_cond rfl (fun hc16 => ?_) (fun hc16 => ?_)
                                · skip
                                  refine AC_skip ?_
                                  refine hK28 _ _ _ ?_
                                  first | refine AC_cond_t rfl ?_ | refine AC_cond_t (congrArg bl hc16) ?_
                                  refine AC_seq fun K36 hK36 => ?_
                                  refine AC_region ?_
                                  refine AL_ev (Ev_assign) rfl ?_
                                  refine AL_nil ?_
                                  refine hK36 _ _ _ ?_
                                  refine AC_ret ?_
                                  refine ret_ok hdm (.tmp rfl rfl .nil) (.cons .d .nil) ?_
                                  simp only [decide_eq_true_eq, decide_eq_false_iff_not] at *
                                  first
                                    | (subst_vars; rfl)
                                    | (have hcf : ctlB s = false := by
                                        simp only [ctlB, ctlL, hasS, Bool.or_false, Bool.or_eq_false_iff, decide_eq_false_iff_not]
                                        and_intros <;> (intro h; subst h; simp_all)
                                       rw [hcf])
                                · skip
                                  refine AC_seq fun K37 hK37 => ?_
                                  refine AC_region ?_
                                  refine AL_ev (Ev_seql rfl rfl) rfl ?_
                                  refine AL_ev (Ev_assign) rfl ?_
                                  refine AL_nil ?_
                                  refine hK37 _ _ _ ?_
                                  refine AC_cond rfl (fun hc17 => ?_) (fun hc17 => ?_)
                                  · skip
                                    refine AC_skip ?_
                                    refine hK28 _ _ _ ?_
                                    first | refine AC_cond_t rfl ?_ | refine AC_cond_t (congrArg bl hc17) ?_
                                    refine AC_seq fun K38 hK38 => ?_
                                    refine AC_region ?_
                                    refine AL_ev (Ev_assign) rfl ?_
                                    refine AL_nil ?_
                                    refine hK38 _ _ _ ?_
                                    refine AC_ret ?_
                                    refine ret_ok hdm (.tmp rfl rfl .nil) (.cons .d .nil) ?_
                                    simp only [decide_eq_true_eq, decide_eq_false_iff_not] at *
                                    first
                                      | (subst_vars; rfl)
                                      | (have hcf : ctlB s = false := by
                                          simp only [ctlB, ctlL, hasS, Bool.or_false, Bool.or_eq_false_iff, decide_eq_false_iff_not]
                                          and_intros <;> (intro h; subst h; simp_all)
                                         rw [hcf])
                                  · skip
                                    refine AC_seq fun K39 hK39 => ?_
                                    refine AC_region ?_
                                    refine AL_ev (Ev_seql rfl rfl) rfl ?_
                                    refine AL_ev (Ev_assign) rfl ?_
                                    refine AL_nil ?_
                                    refine hK39 _ _ _ ?_
                                    refine AC_cond rfl (fun hc18 => ?_) (fun hc18 => ?_)
                                    · skip
                                      refine AC_skip ?_
                                      refine hK28 _ _ _ ?_
                                      first | refine AC_cond_t rfl ?_ | refine AC_cond_t (congrArg bl hc18) ?_
                                      refine AC_seq fun K40 hK40 => ?_
                                      refine AC_region ?_
                                      refine AL_ev (Ev_assign) rfl ?_
                                      refine AL_nil ?_
                                      refine hK40 _ _ _ ?_
                                      refine AC_ret ?_
                                      refine ret_ok hdm (.tmp rfl rfl .nil) (.cons .d .nil) ?_
                                      simp only [decide_eq_true_eq, decide_eq_false_iff_not] at *
                                      first
                                        | (subst_vars; rfl)
                                        | (have hcf : ctlB s = false := by
                                            simp only [ctlB, ctlL, hasS, Bool.or_false, Bool.or_eq_false_iff, decide_eq_false_iff_not]
                                            and_intros <;> (intro h; subst h; simp_all)
                                           rw [hcf])
                                    · skip
                                      refine AC_seq fun K41 hK41 => ?_
                                      refine AC_region ?_
                                      refine AL_ev (Ev_seql rfl rfl) rfl ?_
                                      refine AL_ev (Ev_assign) rfl ?_
                                      refine AL_nil ?_
                                      refine hK41 _ _ _ ?_
                                      refine AC_cond rfl (fun hc19 => ?_) (fun hc19 => ?_)
                                      · skip
                                        refine AC_skip ?_
                                        refine hK28 _ _ _ ?_
                                        first | refine AC_cond_t rfl ?_ | refine AC_cond_t (congrArg bl hc19) ?_
                                        refine AC_seq fun K42 hK42 => ?_
                                        refine AC_region ?_
                                        refine AL_ev (Ev_assign) rfl ?_
                                        refine AL_nil ?_
                                        refine hK42 _ _ _ ?_
                                        refine AC_ret ?_
                                        refine ret_ok hdm (.tmp rfl rfl .nil) (.cons .d .nil) ?_
                                        simp only [decide_eq_true_eq, decide_eq_false_iff_not] at *
                                        first
                                          | (subst_vars; rfl)
                                          | (have hcf : ctlB s = false := by
                                              simp only [ctlB, ctlL, hasS, Bool.or_false, Bool.or_eq_false_iff, decide_eq_false_iff_not]
                                              and_intros <;> (intro h; subst h; simp_all)
                                             rw [hcf])
                                      · skip
                                        refine AC_seq fun K43 hK43 => ?_
                                        refine AC_region ?_
                                        refine AL_ev (Ev_seql rfl rfl) rfl ?_
                                        refine AL_ev (Ev_assign) rfl ?_
                                        refine AL_nil ?_
                                        refine hK43 _ _ _ ?_
                                        refine AC_cond rfl (fun hc20 => ?_) (fun hc20 => ?_)
                                        · skip
                                          refine AC_skip ?_
                                          refine hK28 _ _ _ ?_
                                          first | refine AC_cond_t rfl ?_ | refine AC_cond_t (congrArg bl hc20) ?_
                                          refine AC_seq fun K44 hK44 => ?_
                                          refine AC_region ?_
                                          refine AL_ev (Ev_assign) rfl ?_
                                          refine AL_nil ?_
                                          refine hK44 _ _ _ ?_
                                          refine AC_ret ?_
                                          refine ret_ok hdm (.tmp rfl rfl .nil) (.cons .d .nil) ?_
                                          simp only [decide_eq_true_eq, decide_eq_false_iff_not] at *
                                          first
                                            | (subst_vars; rfl)
                                            | (have hcf : ctlB s = false := by
                                                simp only [ctlB, ctlL, hasS, Bool.or_false, Bool.or_eq_false_iff, decide_eq_false_iff_not]
                                                and_intros <;> (intro h; subst h; simp_all)
                                               rw [hcf])
                                        · skip
                                          refine AC_seq fun K45 hK45 => ?_
                                          refine AC_region ?_
                                          refine AL_ev (Ev_seql rfl rfl) rfl ?_
                                          refine AL_ev (Ev_assign) rfl ?_
                                          refine AL_nil ?_
                                          refine hK45 _ _ _ ?_
                                          refine AC_cond rfl (fun hc21 => ?_) (fun hc21 => ?_)
                                          · skip
                                            refine AC_skip ?_
                                            refine hK28 _ _ _ ?_
                                            first | refine AC_cond_t rfl ?_ | refine AC_cond_t (congrArg bl hc21) ?_
                                            refine AC_seq fun K46 hK46 => ?_
                                            refine AC_region ?_
                                            refine AL_ev (Ev_assign) rfl ?_
                                            refine AL_nil ?_
                                            refine hK46 _ _ _ ?_
                                            refine AC_ret ?_
                                            refine ret_ok hdm (.tmp rfl rfl .nil) (.cons .d .nil) ?_
                                            simp only [decide_eq_true_eq, decide_eq_false_iff_not] at *
                                            first
                                              | (subst_vars; rfl)
                                              | (have hcf : ctlB s = false := by
                                                  simp only [ctlB, ctlL, hasS, Bool.or_false, Bool.or_eq_false_iff, decide_eq_false_iff_not]
                                                  and_intros <;> (intro h; subst h; simp_all)
                                                 rw [hcf])
                                          · skip
                                            refine AC_seq fun K47 hK47 => ?_
                                            refine AC_region ?_
                                            refine AL_ev (Ev_seql rfl rfl) rfl ?_
                                            refine AL_ev (Ev_assign) rfl ?_
                                            refine AL_nil ?_
                                            refine hK47 _ _ _ ?_
                                            refine AC_cond rfl (fun hc22 => ?_) (fun hc22 => ?_)
                                            · skip
                                              refine AC_skip ?_
                                              refine hK28 _ _ _ ?_
                                              first | refine AC_cond_t rfl ?_ | refine AC_cond_t (congrArg bl hc22) ?_
                                              refine AC_seq fun K48 hK48 => ?_
                                              refine AC_region ?_
                                              refine AL_ev (Ev_assign) rfl ?_
                                              refine AL_nil ?_
                                              refine hK48 _ _ _ ?_
                                              refine AC_ret ?_
                                              refine ret_ok hdm (.tmp rfl rfl .nil) (.cons .d .nil) ?_
                                              simp only [decide_eq_true_eq, decide_eq_false_iff_not] at *
                                              first
                                                | (subst_vars; rfl)
                                                | (have hcf : ctlB s = false := by
                                                    simp only [ctlB, ctlL, hasS, Bool.or_false, Bool.or_eq_false_iff, decide_eq_false_iff_not]
                                                    and_intros <;> (intro h; subst h; simp_all)
                                                   rw [hcf])
                                            · skip
                                              refine AC_seq fun K49 hK49 => ?_
                                              refine AC_region ?_
                                              refine AL_ev (Ev_seql rfl rfl) rfl ?_
                                              refine AL_ev (Ev_assign) rfl ?_
                                              refine AL_nil ?_
                                              refine hK49 _ _ _ ?_
                                              refine AC_cond rfl (fun hc23 => ?_) (fun hc23 => ?_)
                                              · skip
                                                refine AC_skip ?_
                                                refine hK28 _ _ _ ?_
                                                first | refine AC_cond_t rfl ?_ | refine AC_cond_t (congrArg bl hc23) ?_
                                                refine AC_seq fun K50 hK50 => ?_
                                                refine AC_region ?_
                                                refine AL_ev (Ev_assign) rfl ?_
                                                refine AL_nil ?_
                                                refine hK50 _ _ _ ?_
                                                refine AC_ret ?_
                                                refine ret_ok hdm (.tmp rfl rfl .nil) (.cons .d .nil) ?_
                                                simp only [decide_eq_true_eq, decide_eq_false_iff_not] at *
                                                first
                                                  | (subst_vars; rfl)
                                                  | (have hcf : ctlB s = false := by
                                                      simp only [ctlB, ctlL, hasS, Bool.or_false, Bool.or_eq_false_iff, decide_eq_false_iff_not]
                                                      and_intros <;> (intro h; subst h; simp_all)
                                                     rw [hcf])
                                              · skip
                                                refine AC_seq fun K51 hK51 => ?_
                                                refine AC_region ?_
                                                refine AL_ev (Ev_seql rfl rfl) rfl ?_
                                                refine AL_ev (Ev_assign) rfl ?_
                                                refine AL_nil ?_
                                                refine hK51 _ _ _ ?_
                                                refine AC_cond rfl (fun hc24 => ?_) (fun hc24 => ?_)
                                                · skip
                                                  refine AC_skip ?_
                                                  refine hK28 _ _ _ ?_
                                                  first | refine AC_cond_t rfl ?_ | refine AC_cond_t (congrArg bl hc24) ?_
                                                  refine AC_seq fun K52 hK52 => ?_
                                                  refine AC_region ?_
                                                  refine AL_ev (Ev_assign) rfl ?_
                                                  refine AL_nil ?_
                                                  refine hK52 _ _ _ ?_
                                                  refine AC_ret ?_
                                                  refine ret_ok hdm (.tmp rfl rfl .nil) (.cons .d .nil) ?_
                                                  simp only [decide_eq_true_eq, decide_eq_false_iff_not] at *
                                                  first
                                                    | (subst_vars; rfl)
                                                    | (have hcf : ctlB s = false := by
                                                        simp only [ctlB, ctlL, hasS, Bool.or_false, Bool.or_eq_false_iff, decide_eq_false_iff_not]
                                                        and_intros <;> (intro h; subst h; simp_all)
                                                       rw [hcf])
                                                · skip
                                                  refine AC_seq fun K53 hK53 => ?_
                                                  refine AC_region ?_
                                                  refine AL_ev (Ev_seql rfl rfl) rfl ?_
                                                  refine AL_ev (Ev_assign) rfl ?_
                                                  refine AL_nil ?_
                                                  refine hK53 _ _ _ ?_
                                                  refine AC_cond rfl (fun hc25 => ?_) (fun hc25 => ?_)
                                                  · skip
                                                    refine AC_skip ?_
                                                    refine hK28 _ _ _ ?_
                                                    first | refine AC_cond_t rfl ?_ | refine AC_cond_t (congrArg bl hc25) ?_
                                                    refine AC_seq fun K54 hK54 => ?_
                                                    refine AC_region ?_
                                                    refine AL_ev (Ev_assign) rfl ?_
                                                    refine AL_nil ?_
                                                    refine hK54 _ _ _ ?_
                                                    refine AC_ret ?_
                                                    refine ret_ok hdm (.tmp rfl rfl .nil) (.cons .d .nil) ?_
                                                    simp only [decide_eq_true_eq, decide_eq_false_iff_not] at *
                                                    first
                                                      | (subst_vars; rfl)
                                                      | (have hcf : ctlB s = false := by
                                                          simp only [ctlB, ctlL, hasS, Bool.or_false, Bool.or_eq_false_iff, decide_eq_false_iff_not]
                                                          and_intros <;> (intro h; subst h; simp_all)
                                                         rw [hcf])
                                                  · skip
                                                    refine AC_region ?_
                                                    refine AL_ev (Ev_seql rfl rfl) rfl ?_
                                                    refine AL_ev (Ev_assign) rfl ?_
                                                    refine AL_nil ?_
                                                    refine hK28 _ _ _ ?_
                                                    refine AC_cond rfl (fun hc26 => ?_) (fun hc26 => ?_)
                                                    · skip
                                                      refine AC_seq fun K55 hK55 => ?_
                                                      refine AC_region ?_
                                                      refine AL_ev (Ev_assign) rfl ?_
                                                      refine AL_nil ?_
                                                      refine hK55 _ _ _ ?_
                                                      refine AC_ret ?_
                                                      refine ret_ok hdm (.tmp rfl rfl .nil) (.cons .d .nil) ?_
                                                      simp only [decide_eq_true_eq, decide_eq_false_iff_not] at *
                                                      first
                                                        | (subst_vars; rfl)
                                                        | (have hcf : ctlB s = false := by
                                                            simp only [ctlB, ctlL, hasS, Bool.or_false, Bool.or_eq_false_iff, decide_eq_false_iff_not]
                                                            and_intros <;> (intro h; subst h; simp_all)
                                                           rw [hcf])
                                                    · skip
                                                      refine AC_skip ?_
                                                      refine hK2 _ _ _ ?_
                                                      refine AC_seq fun K56 hK56 => ?_
                                                      refine AC_region ?_
                                                      refine AL_ev (Ev_assign) rfl ?_
                                                      refine AL_nil ?_
                                                      refine hK56 _ _ _ ?_
                                                      refine AC_ret ?_
                                                      refine ret_ok hdm (.tmp rfl rfl .nil) (.cons .d .nil) ?_
                                                      simp only [decide_eq_true_eq, decide_eq_false_iff_not] at *
                                                      first
                                                        | (subst_vars; rfl)
                                                        | (have hcf : ctlB s = false := by
                                                            simp only [ctlB, ctlL, hasS, Bool.or_false, Bool.or_eq_false_iff, decide_eq_false_iff_not]
                                                            and_intros <;> (intro h; subst h; simp_all)
                                                           rw [hcf])

set_option maxHeartbeats 1000000 in
set_option maxRecDepth 4000 in
theorem c_eachCall {A : Type} (J : Jx A) (kk : FuncId) (xs : List Value) (hxs : xs.all Value.scalar = true) (hcl : Callable Tryd.prog kk) (step : A → ByteArray → Bool → A) (μ : A → Int) (hμ : ∀ a s n, μ (step a s n) ≤ μ a + 1) (hf : ∀ s n a, μ a + 1 ≤ 1099511627776 → FCall Tryd.prog kk J ([.c (.string s), .c (.bool n)] ++ xs.map D.c) a (step a s n)) (t : T) : ∀ (neg : Bool) (a : A), bulk t ≤ 1099511627776 → μ a + sz t ≤ 1099511627776 → FCall Tryd.prog 24 (J) [inj t, .c (.bool neg), .c (.func (.func kk) #[] xs.toArray)] (a) (eachF step t neg a) := by
  induction t using T.ind with | h k s m ks ih => ?_
  intro neg a hb hl
  refine FCall_of (n := 72) Tryd.func24 rfl rfl (Nat.le_of_ble_eq_true rfl) fun C0 F hdm hT hJ => ?_
  have hM := Mk.refl C0 F
  have hS : ∀ b ∈ F, b ∈ F ∨ C0.w0.heap.size ≤ b := fun b hb => .inl hb
  refine AC_seq fun K1 hK1 => ?_
  refine AC_region ?_
  refine AL_box (Lay.st [.one, .one, .one, .one]) (nf rfl) rfl (by first | rfl | simp [Lay.len, Lay.lens]) _ rfl rfl ?_
  refine AL_nil ?_
  refine hK1 _ _ _ ?_
  refine AC_seq fun K2 hK2 => ?_
  refine AC_region ?_
  first | refine AL_ev (Ev_load_ptr rfl rfl rfl rfl rfl rfl ts48 ta48 (by first | rfl | simp) (by intro h; cases h)) rfl ?_ | refine AL_ev (Ev_load_rp rfl rfl rfl ts48 ta48 (by first | rfl | simp) (by intro h; cases h)) rfl ?_
  refine AL_fcall0 hT rfl cl23 (c_predOf _ hb) rfl rfl ?_
  refine AL_ev (Ev_assign) rfl ?_
  refine AL_nil ?_
  refine hK2 _ _ _ ?_
  refine AC_seq fun K3 hK3 => ?_
  refine AC_region ?_
  refine AL_ev (Ev_move) rfl ?_
  refine AL_nil ?_
  refine hK3 _ _ _ ?_
  refine AC_block ?_
  refine AC_seq fun K4 hK4 => ?_
  refine AC_seq fun K5 hK5 => ?_
  refine AC_region ?_
  refine AL_ev (Ev_seql rfl rfl) rfl ?_
  refine AL_ev (Ev_assign) rfl ?_
  refine AL_nil ?_
  refine hK5 _ _ _ ?_
  refine AC_cond rfl (fun hc1 => ?_) (fun hc1 => ?_)
  · skip
    have hp0 := of_decide_eq_true hc1
    obtain ⟨x, y, rfl⟩ := len2 (show ks.length = 2 from predS_kids [44] 2 (by omega) rfl hp0)
    have hp : predS (.mk k s m [x, y]) = cComma ∨ predS (.mk k s m [x, y]) = cSemi ∨ predS (.mk k s m [x, y]) = cArrow := .inl hp0
    have hu0 : (injs [x, y])[(0 : Int).toNat]? = some (inj x) := rfl
    have hu1 : (injs [x, y])[(1 : Int).toNat]? = some (inj y) := rfl
    simp only [sz, szs] at hl
    have hle := eachF_le hμ x neg a
    refine AC_skip ?_
    refine hK4 _ _ _ ?_
    first | refine AC_cond_t rfl ?_ | refine AC_cond_t (congrArg bl hc1) ?_
    refine AC_seq fun K6 hK6 => ?_
    refine AC_region ?_
    first | refine AL_ev (Ev_fa_ptr rfl fa48_3 rfl rfl) rfl ?_ | refine AL_ev (Ev_fa_rp rfl fa48_3 rfl rfl) rfl ?_
    first | refine AL_ev (Ev_load_ptr rfl rfl rfl rfl rfl rfl ts46 ta46 rfl (fun _ => rfl)) rfl ?_ | refine AL_ev (Ev_load_rp rfl rfl rfl ts46 ta46 rfl (fun _ => rfl)) rfl ?_
    first | refine AL_ev (Ev_ix_sl rfl rfl te46 ts48 (by omega) (by assumption)) rfl ?_ | refine AL_ev (Ev_ix_ref rfl rfl te46 ts48 (by omega) (by first | omega | (simp; omega))) rfl ?_
    first | refine AL_ev (Ev_load_ptr rfl rfl rfl rfl rfl rfl ts48 ta48 (by first | rfl | simp) (by intro h; cases h)) rfl ?_ | refine AL_ev (Ev_load_rp rfl rfl rfl ts48 ta48 (by first | rfl | simp) (by intro h; cases h)) rfl ?_
    refine AL_ev (Ev_move) rfl ?_
    refine AL_ev (Ev_move) rfl ?_
    refine AL_jcall hT (ds := [inj x, .c (.bool neg), .c (.func (.func kk) #[] xs.toArray)]) (.plain rfl) rfl cl24 rfl (ih x (by simp) neg (a) (bulk_mem hb x (by simp)) (by omega)) hJ rfl fun C1 F1 hm1 hJ hs1 hT => ?_
    obtain ⟨hM, hS⟩ := jstep hM hS hm1 hs1
    clear hm1 hs1
    refine AL_nil ?_
    refine hK6 _ _ _ ?_
    refine AC_region ?_
    first | refine AL_ev (Ev_fa_ptr rfl fa48_3 rfl rfl) rfl ?_ | refine AL_ev (Ev_fa_rp rfl fa48_3 rfl rfl) rfl ?_
    first | refine AL_ev (Ev_load_ptr rfl rfl rfl rfl rfl rfl ts46 ta46 rfl (fun _ => rfl)) rfl ?_ | refine AL_ev (Ev_load_rp rfl rfl rfl ts46 ta46 rfl (fun _ => rfl)) rfl ?_
    first | refine AL_ev (Ev_ix_sl rfl rfl te46 ts48 (by omega) (by assumption)) rfl ?_ | refine AL_ev (Ev_ix_ref rfl rfl te46 ts48 (by omega) (by first | omega | (simp; omega))) rfl ?_
    first | refine AL_ev (Ev_load_ptr rfl rfl rfl rfl rfl rfl ts48 ta48 (by first | rfl | simp) (by intro h; cases h)) rfl ?_ | refine AL_ev (Ev_load_rp rfl rfl rfl ts48 ta48 (by first | rfl | simp) (by intro h; cases h)) rfl ?_
    refine AL_ev (Ev_move) rfl ?_
    refine AL_ev (Ev_move) rfl ?_
    refine AL_jcall hT (ds := [inj y, .c (.bool neg), .c (.func (.func kk) #[] xs.toArray)]) (.plain rfl) rfl cl24 rfl (ih y (by simp) neg (eachF step x neg a) (bulk_mem hb y (by simp)) (by omega)) hJ rfl fun C1 F1 hm1 hJ hs1 hT => ?_
    obtain ⟨hM, hS⟩ := jstep hM hS hm1 hs1
    clear hm1 hs1
    refine AL_nil ?_
    refine jend2 rfl hM hdm rfl hJ hS ?_
    exact eachF_two hp
  · skip
    refine AC_seq fun K7 hK7 => ?_
    refine AC_region ?_
    refine AL_ev (Ev_seql rfl rfl) rfl ?_
    refine AL_ev (Ev_assign) rfl ?_
    refine AL_nil ?_
    refine hK7 _ _ _ ?_
    refine AC_cond rfl (fun hc2 => ?_) (fun hc2 => ?_)
    · skip
      have hp0 := of_decide_eq_true hc2
      obtain ⟨x, y, rfl⟩ := len2 (show ks.length = 2 from predS_kids [59] 2 (by omega) rfl hp0)
      have hp : predS (.mk k s m [x, y]) = cComma ∨ predS (.mk k s m [x, y]) = cSemi ∨ predS (.mk k s m [x, y]) = cArrow := .inr (.inl hp0)
      have hu0 : (injs [x, y])[(0 : Int).toNat]? = some (inj x) := rfl
      have hu1 : (injs [x, y])[(1 : Int).toNat]? = some (inj y) := rfl
      simp only [sz, szs] at hl
      have hle := eachF_le hμ x neg a
      refine AC_skip ?_
      refine hK4 _ _ _ ?_
      first | refine AC_cond_t rfl ?_ | refine AC_cond_t (congrArg bl hc2) ?_
      refine AC_seq fun K8 hK8 => ?_
      refine AC_region ?_
      first | refine AL_ev (Ev_fa_ptr rfl fa48_3 rfl rfl) rfl ?_ | refine AL_ev (Ev_fa_rp rfl fa48_3 rfl rfl) rfl ?_
      first | refine AL_ev (Ev_load_ptr rfl rfl rfl rfl rfl rfl ts46 ta46 rfl (fun _ => rfl)) rfl ?_ | refine AL_ev (Ev_load_rp rfl rfl rfl ts46 ta46 rfl (fun _ => rfl)) rfl ?_
      first | refine AL_ev (Ev_ix_sl rfl rfl te46 ts48 (by omega) (by assumption)) rfl ?_ | refine AL_ev (Ev_ix_ref rfl rfl te46 ts48 (by omega) (by first | omega | (simp; omega))) rfl ?_
      first | refine AL_ev (Ev_load_ptr rfl rfl rfl rfl rfl rfl ts48 ta48 (by first | rfl | simp) (by intro h; cases h)) rfl ?_ | refine AL_ev (Ev_load_rp rfl rfl rfl ts48 ta48 (by first | rfl | simp) (by intro h; cases h)) rfl ?_
      refine AL_ev (Ev_move) rfl ?_
      refine AL_ev (Ev_move) rfl ?_
      refine AL_jcall hT (ds := [inj x, .c (.bool neg), .c (.func (.func kk) #[] xs.toArray)]) (.plain rfl) rfl cl24 rfl (ih x (by simp) neg (a) (bulk_mem hb x (by simp)) (by omega)) hJ rfl fun C1 F1 hm1 hJ hs1 hT => ?_
      obtain ⟨hM, hS⟩ := jstep hM hS hm1 hs1
      clear hm1 hs1
      refine AL_nil ?_
      refine hK8 _ _ _ ?_
      refine AC_region ?_
      first | refine AL_ev (Ev_fa_ptr rfl fa48_3 rfl rfl) rfl ?_ | refine AL_ev (Ev_fa_rp rfl fa48_3 rfl rfl) rfl ?_
      first | refine AL_ev (Ev_load_ptr rfl rfl rfl rfl rfl rfl ts46 ta46 rfl (fun _ => rfl)) rfl ?_ | refine AL_ev (Ev_load_rp rfl rfl rfl ts46 ta46 rfl (fun _ => rfl)) rfl ?_
      first | refine AL_ev (Ev_ix_sl rfl rfl te46 ts48 (by omega) (by assumption)) rfl ?_ | refine AL_ev (Ev_ix_ref rfl rfl te46 ts48 (by omega) (by first | omega | (simp; omega))) rfl ?_
      first | refine AL_ev (Ev_load_ptr rfl rfl rfl rfl rfl rfl ts48 ta48 (by first | rfl | simp) (by intro h; cases h)) rfl ?_ | refine AL_ev (Ev_load_rp rfl rfl rfl ts48 ta48 (by first | rfl | simp) (by intro h; cases h)) rfl ?_
      refine AL_ev (Ev_move) rfl ?_
      refine AL_ev (Ev_move) rfl ?_
      refine AL_jcall hT (ds := [inj y, .c (.bool neg), .c (.func (.func kk) #[] xs.toArray)]) (.plain rfl) rfl cl24 rfl (ih y (by simp) neg (eachF step x neg a) (bulk_mem hb y (by simp)) (by omega)) hJ rfl fun C1 F1 hm1 hJ hs1 hT => ?_
      obtain ⟨hM, hS⟩ := jstep hM hS hm1 hs1
      clear hm1 hs1
      refine AL_nil ?_
      refine jend2 rfl hM hdm rfl hJ hS ?_
      exact eachF_two hp
    · skip
      refine AC_region ?_
      refine AL_ev (Ev_seql rfl rfl) rfl ?_
      refine AL_ev (Ev_assign) rfl ?_
      refine AL_nil ?_
      refine hK4 _ _ _ ?_
      refine AC_cond rfl (fun hc3 => ?_) (fun hc3 => ?_)
      · skip
        have hp0 := of_decide_eq_true hc3
        obtain ⟨x, y, rfl⟩ := len2 (show ks.length = 2 from predS_kids [45, 62] 2 (by omega) rfl hp0)
        have hp : predS (.mk k s m [x, y]) = cComma ∨ predS (.mk k s m [x, y]) = cSemi ∨ predS (.mk k s m [x, y]) = cArrow := .inr (.inr hp0)
        have hu0 : (injs [x, y])[(0 : Int).toNat]? = some (inj x) := rfl
        have hu1 : (injs [x, y])[(1 : Int).toNat]? = some (inj y) := rfl
        simp only [sz, szs] at hl
        have hle := eachF_le hμ x neg a
        refine AC_seq fun K9 hK9 => ?_
        refine AC_region ?_
        first | refine AL_ev (Ev_fa_ptr rfl fa48_3 rfl rfl) rfl ?_ | refine AL_ev (Ev_fa_rp rfl fa48_3 rfl rfl) rfl ?_
        first | refine AL_ev (Ev_load_ptr rfl rfl rfl rfl rfl rfl ts46 ta46 rfl (fun _ => rfl)) rfl ?_ | refine AL_ev (Ev_load_rp rfl rfl rfl ts46 ta46 rfl (fun _ => rfl)) rfl ?_
        first | refine AL_ev (Ev_ix_sl rfl rfl te46 ts48 (by omega) (by assumption)) rfl ?_ | refine AL_ev (Ev_ix_ref rfl rfl te46 ts48 (by omega) (by first | omega | (simp; omega))) rfl ?_
        first | refine AL_ev (Ev_load_ptr rfl rfl rfl rfl rfl rfl ts48 ta48 (by first | rfl | simp) (by intro h; cases h)) rfl ?_ | refine AL_ev (Ev_load_rp rfl rfl rfl ts48 ta48 (by first | rfl | simp) (by intro h; cases h)) rfl ?_
        refine AL_ev (Ev_move) rfl ?_
        refine AL_ev (Ev_move) rfl ?_
        refine AL_jcall hT (ds := [inj x, .c (.bool neg), .c (.func (.func kk) #[] xs.toArray)]) (.plain rfl) rfl cl24 rfl (ih x (by simp) neg (a) (bulk_mem hb x (by simp)) (by omega)) hJ rfl fun C1 F1 hm1 hJ hs1 hT => ?_
        obtain ⟨hM, hS⟩ := jstep hM hS hm1 hs1
        clear hm1 hs1
        refine AL_nil ?_
        refine hK9 _ _ _ ?_
        refine AC_region ?_
        first | refine AL_ev (Ev_fa_ptr rfl fa48_3 rfl rfl) rfl ?_ | refine AL_ev (Ev_fa_rp rfl fa48_3 rfl rfl) rfl ?_
        first | refine AL_ev (Ev_load_ptr rfl rfl rfl rfl rfl rfl ts46 ta46 rfl (fun _ => rfl)) rfl ?_ | refine AL_ev (Ev_load_rp rfl rfl rfl ts46 ta46 rfl (fun _ => rfl)) rfl ?_
        first | refine AL_ev (Ev_ix_sl rfl rfl te46 ts48 (by omega) (by assumption)) rfl ?_ | refine AL_ev (Ev_ix_ref rfl rfl te46 ts48 (by omega) (by first | omega | (simp; omega))) rfl ?_
        first | refine AL_ev (Ev_load_ptr rfl rfl rfl rfl rfl rfl ts48 ta48 (by first | rfl | simp) (by intro h; cases h)) rfl ?_ | refine AL_ev (Ev_load_rp rfl rfl rfl ts48 ta48 (by first | rfl | simp) (by intro h; cases h)) rfl ?_
        refine AL_ev (Ev_move) rfl ?_
        refine AL_ev (Ev_move) rfl ?_
        refine AL_jcall hT (ds := [inj y, .c (.bool neg), .c (.func (.func kk) #[] xs.toArray)]) (.plain rfl) rfl cl24 rfl (ih y (by simp) neg (eachF step x neg a) (bulk_mem hb y (by simp)) (by omega)) hJ rfl fun C1 F1 hm1 hJ hs1 hT => ?_
        obtain ⟨hM, hS⟩ := jstep hM hS hm1 hs1
        clear hm1 hs1
        refine AL_nil ?_
        refine jend2 rfl hM hdm rfl hJ hS ?_
        exact eachF_two hp
      · skip
        refine AC_seq fun K10 hK10 => ?_
        refine AC_region ?_
        refine AL_ev (Ev_seql rfl rfl) rfl ?_
        refine AL_ev (Ev_assign) rfl ?_
        refine AL_nil ?_
        refine hK10 _ _ _ ?_
        refine AC_cond rfl (fun hc4 => ?_) (fun hc4 => ?_)
        · skip
          have hp := of_decide_eq_true hc4
          obtain ⟨x, rfl⟩ := len1 (show ks.length = 1 from predS_kids [92, 43] 1 (by omega) rfl hp)
          have hu0 : (injs [x])[(0 : Int).toNat]? = some (inj x) := rfl
          simp only [sz, szs] at hl
          refine AC_region ?_
          first | refine AL_ev (Ev_fa_ptr rfl fa48_3 rfl rfl) rfl ?_ | refine AL_ev (Ev_fa_rp rfl fa48_3 rfl rfl) rfl ?_
          first | refine AL_ev (Ev_load_ptr rfl rfl rfl rfl rfl rfl ts46 ta46 rfl (fun _ => rfl)) rfl ?_ | refine AL_ev (Ev_load_rp rfl rfl rfl ts46 ta46 rfl (fun _ => rfl)) rfl ?_
          first | refine AL_ev (Ev_ix_sl rfl rfl te46 ts48 (by omega) (by assumption)) rfl ?_ | refine AL_ev (Ev_ix_ref rfl rfl te46 ts48 (by omega) (by first | omega | (simp; omega))) rfl ?_
          first | refine AL_ev (Ev_load_ptr rfl rfl rfl rfl rfl rfl ts48 ta48 (by first | rfl | simp) (by intro h; cases h)) rfl ?_ | refine AL_ev (Ev_load_rp rfl rfl rfl ts48 ta48 (by first | rfl | simp) (by intro h; cases h)) rfl ?_
          refine AL_ev (Ev_move) rfl ?_
          refine AL_jcall hT (ds := [inj x, .c (.bool true), .c (.func (.func kk) #[] xs.toArray)]) (.plain rfl) rfl cl24 rfl (ih x (by simp) true (a) (bulk_mem hb x (by simp)) (by omega)) hJ rfl fun C1 F1 hm1 hJ hs1 hT => ?_
          obtain ⟨hM, hS⟩ := jstep hM hS hm1 hs1
          clear hm1 hs1
          refine AL_nil ?_
          refine jend2 rfl hM hdm rfl hJ hS ?_
          exact eachF_not hp
        · skip
          refine AC_seq fun K11 hK11 => ?_
          refine AC_region ?_
          refine AL_ev (Ev_seql rfl rfl) rfl ?_
          refine AL_ev (Ev_assign) rfl ?_
          refine AL_nil ?_
          refine hK11 _ _ _ ?_
          refine AC_cond rfl (fun hc5 => ?_) (fun hc5 => ?_)
          · skip
            have hp := of_decide_eq_true hc5
            obtain ⟨x, rfl⟩ := len1 (show ks.length = 1 from predS_kids [99, 97, 108, 108] 1 (by omega) rfl hp)
            have hu0 : (injs [x])[(0 : Int).toNat]? = some (inj x) := rfl
            simp only [sz, szs] at hl
            refine AC_region ?_
            first | refine AL_ev (Ev_fa_ptr rfl fa48_3 rfl rfl) rfl ?_ | refine AL_ev (Ev_fa_rp rfl fa48_3 rfl rfl) rfl ?_
            first | refine AL_ev (Ev_load_ptr rfl rfl rfl rfl rfl rfl ts46 ta46 rfl (fun _ => rfl)) rfl ?_ | refine AL_ev (Ev_load_rp rfl rfl rfl ts46 ta46 rfl (fun _ => rfl)) rfl ?_
            first | refine AL_ev (Ev_ix_sl rfl rfl te46 ts48 (by omega) (by assumption)) rfl ?_ | refine AL_ev (Ev_ix_ref rfl rfl te46 ts48 (by omega) (by first | omega | (simp; omega))) rfl ?_
            first | refine AL_ev (Ev_load_ptr rfl rfl rfl rfl rfl rfl ts48 ta48 (by first | rfl | simp) (by intro h; cases h)) rfl ?_ | refine AL_ev (Ev_load_rp rfl rfl rfl ts48 ta48 (by first | rfl | simp) (by intro h; cases h)) rfl ?_
            refine AL_ev (Ev_move) rfl ?_
            refine AL_ev (Ev_move) rfl ?_
            refine AL_jcall hT (ds := [inj x, .c (.bool neg), .c (.func (.func kk) #[] xs.toArray)]) (.plain rfl) rfl cl24 rfl (ih x (by simp) neg (a) (bulk_mem hb x (by simp)) (by omega)) hJ rfl fun C1 F1 hm1 hJ hs1 hT => ?_
            obtain ⟨hM, hS⟩ := jstep hM hS hm1 hs1
            clear hm1 hs1
            refine AL_nil ?_
            refine jend2 rfl hM hdm rfl hJ hS ?_
            exact eachF_call hp
          · skip
            refine AC_seq fun K12 hK12 => ?_
            refine AC_region ?_
            refine AL_ev (Ev_seql rfl rfl) rfl ?_
            refine AL_ev (Ev_assign) rfl ?_
            refine AL_nil ?_
            refine hK12 _ _ _ ?_
            refine AC_cond rfl (fun hc6 => ?_) (fun hc6 => ?_)
            · skip
              have hp := of_decide_eq_true hc6
              obtain ⟨x, y, z, rfl⟩ := len3 (show ks.length = 3 from predS_kids [99, 97, 116, 99, 104] 3 (by omega) rfl hp)
              have hu0 : (injs [x, y, z])[(0 : Int).toNat]? = some (inj x) := rfl
              have hu1 : (injs [x, y, z])[(2 : Int).toNat]? = some (inj z) := rfl
              simp only [sz, szs] at hl
              have hle := eachF_le hμ x neg a
              refine AC_seq fun K13 hK13 => ?_
              refine AC_region ?_
              first | refine AL_ev (Ev_fa_ptr rfl fa48_3 rfl rfl) rfl ?_ | refine AL_ev (Ev_fa_rp rfl fa48_3 rfl rfl) rfl ?_
              first | refine AL_ev (Ev_load_ptr rfl rfl rfl rfl rfl rfl ts46 ta46 rfl (fun _ => rfl)) rfl ?_ | refine AL_ev (Ev_load_rp rfl rfl rfl ts46 ta46 rfl (fun _ => rfl)) rfl ?_
              first | refine AL_ev (Ev_ix_sl rfl rfl te46 ts48 (by omega) (by assumption)) rfl ?_ | refine AL_ev (Ev_ix_ref rfl rfl te46 ts48 (by omega) (by first | omega | (simp; omega))) rfl ?_
              first | refine AL_ev (Ev_load_ptr rfl rfl rfl rfl rfl rfl ts48 ta48 (by first | rfl | simp) (by intro h; cases h)) rfl ?_ | refine AL_ev (Ev_load_rp rfl rfl rfl ts48 ta48 (by first | rfl | simp) (by intro h; cases h)) rfl ?_
              refine AL_ev (Ev_move) rfl ?_
              refine AL_ev (Ev_move) rfl ?_
              refine AL_jcall hT (ds := [inj x, .c (.bool neg), .c (.func (.func kk) #[] xs.toArray)]) (.plain rfl) rfl cl24 rfl (ih x (by simp) neg (a) (bulk_mem hb x (by simp)) (by omega)) hJ rfl fun C1 F1 hm1 hJ hs1 hT => ?_
              obtain ⟨hM, hS⟩ := jstep hM hS hm1 hs1
              clear hm1 hs1
              refine AL_nil ?_
              refine hK13 _ _ _ ?_
              refine AC_region ?_
              first | refine AL_ev (Ev_fa_ptr rfl fa48_3 rfl rfl) rfl ?_ | refine AL_ev (Ev_fa_rp rfl fa48_3 rfl rfl) rfl ?_
              first | refine AL_ev (Ev_load_ptr rfl rfl rfl rfl rfl rfl ts46 ta46 rfl (fun _ => rfl)) rfl ?_ | refine AL_ev (Ev_load_rp rfl rfl rfl ts46 ta46 rfl (fun _ => rfl)) rfl ?_
              first | refine AL_ev (Ev_ix_sl rfl rfl te46 ts48 (by omega) (by assumption)) rfl ?_ | refine AL_ev (Ev_ix_ref rfl rfl te46 ts48 (by omega) (by first | omega | (simp; omega))) rfl ?_
              first | refine AL_ev (Ev_load_ptr rfl rfl rfl rfl rfl rfl ts48 ta48 (by first | rfl | simp) (by intro h; cases h)) rfl ?_ | refine AL_ev (Ev_load_rp rfl rfl rfl ts48 ta48 (by first | rfl | simp) (by intro h; cases h)) rfl ?_
              refine AL_ev (Ev_move) rfl ?_
              refine AL_ev (Ev_move) rfl ?_
              refine AL_jcall hT (ds := [inj z, .c (.bool neg), .c (.func (.func kk) #[] xs.toArray)]) (.plain rfl) rfl cl24 rfl (ih z (by simp) neg (eachF step x neg a) (bulk_mem hb z (by simp)) (by omega)) hJ rfl fun C1 F1 hm1 hJ hs1 hT => ?_
              obtain ⟨hM, hS⟩ := jstep hM hS hm1 hs1
              clear hm1 hs1
              refine AL_nil ?_
              refine jend2 rfl hM hdm rfl hJ hS ?_
              exact eachF_catch hp
            · skip
              refine AC_seq fun K14 hK14 => ?_
              refine AC_region ?_
              refine AL_ev (Ev_move) rfl ?_
              refine AL_ev (Ev_sneq rfl rfl) rfl ?_
              refine AL_ev (Ev_move) rfl ?_
              refine AL_bool 12 rfl (fun hg7 => ?_) (fun hg7 => ?_)
              · skip
                refine AL_guard_t rfl rfl rfl ?_
                refine AL_ev (Ev_move) rfl ?_
                refine AL_guard_t rfl rfl rfl ?_
                refine AL_fcall0 hT rfl cl41 (c_control (predS (.mk k s m ks))) rfl rfl ?_
                refine AL_guard_t rfl rfl rfl ?_
                refine AL_ev (Ev_not rfl) rfl ?_
                refine AL_ev (Ev_pick rfl) rfl ?_
                refine AL_nil ?_
                refine hK14 _ _ _ ?_
                refine AC_cond rfl (fun hc8 => ?_) (fun hc8 => ?_)
                · skip
                  refine AC_region ?_
                  refine AL_ev (Ev_move) rfl ?_
                  refine AL_ev (Ev_move) rfl ?_
                  refine AL_ev (Ev_move) rfl ?_
                  refine AL_jcall hT (ds := [.c (.string (predS (.mk k s m ks))), .c (.bool neg)]) (.clo rfl) hxs hcl rfl (hf (predS (.mk k s m ks)) neg a (by rw [sz] at hl; omega)) hJ rfl fun C1 F1 hm1 hJ hs1 hT => ?_
                  obtain ⟨hM, hS⟩ := jstep hM hS hm1 hs1
                  refine AL_nil ?_
                  refine jend2 rfl hM hdm rfl hJ hS ?_
                  exact (eachF_end hc1 hc2 hc3 hc4 hc5 hc6).trans (if_neg (by simp_all))
                · skip
                  refine AC_skip ?_
                  refine jend2 rfl hM hdm rfl hJ hS ?_
                  exact (eachF_end hc1 hc2 hc3 hc4 hc5 hc6).trans (if_pos (by simp_all))
              · skip
                refine AL_guard_f rfl rfl rfl rfl ?_
                refine AL_guard_f rfl rfl rfl rfl ?_
                refine AL_guard_f rfl rfl rfl rfl ?_
                refine AL_ev (Ev_pick rfl) rfl ?_
                refine AL_nil ?_
                refine hK14 _ _ _ ?_
                first | refine AC_cond_f rfl ?_ | refine AC_cond_f (congrArg bl hc8) ?_
                refine AC_skip ?_
                refine jend2 rfl hM hdm rfl hJ hS ?_
                exact (eachF_end hc1 hc2 hc3 hc4 hc5 hc6).trans (if_pos (by simp_all))

end Go.Proofs.YtjhdkjacfclipaaDoor
