/- Contracts of functions. -/
import Derived.Test.YtleahipnknainaaDoorMt
import Derived.Test.YtleahipnknainaaDoorOk
import Derived.Test.YtleahipnknainaaDoorWn
import Derived.Test.YtleahipnknainaaDoorEng27
import Derived.Test.YtleahipnknainaaDoorCs
import Derived.Test.YtleahipnknainaaDoorProg
import Derived.KernelRfl
import Derived.Test.YtleahipnknainaaDoorCA
import Derived.Test.YtleahipnknainaaDoorCF
import Derived.Test.YtleahipnknainaaDoorCG
set_option linter.unusedVariables false
set_option linter.unusedSimpArgs false
namespace Go.Proofs.YtleahipnknainaaDoor
open Go.Eng

theorem cl85 : Callable Tryd.prog 85 := Callable_of Tryd.func85 (by kernel_rfl) (by kernel_rfl)

set_option maxHeartbeats 1000000 in
set_option maxRecDepth 4000 in
theorem c_control (s : ByteArray) : PCall Tryd.prog 72 [.c (.string s)] (· = [.c (.bool (ctlB s))]) := by
  refine PCall_of (n := 8) Tryd.func72 rfl rfl (Nat.le_of_ble_eq_true rfl) fun C hdm hT0 => ?_
  have hT := hT0
  refine AC_seq fun K1 hK1 => ?_
  refine AC_region ?_
  refine AL_ev (Ev_assign) rfl ?_
  refine AL_nil ?_
  refine hK1 _ _ _ ?_
  refine AC_seq fun K2 hK2 => ?_
  refine AC_region ?_
  first | refine AL_bD .one rfl te23 ts9 tz9 rfl rfl (by decide) (by decide) (by first | rfl | simp [lenDs, goodVs, goodV, V.known, Lay.len, Lay.lens]) rfl ?_ | refine AL_bV .one rfl te23 ts9 tz9 rfl rfl (by decide) (by decide) (by first | rfl | simp [lenDs, goodVs, goodV, V.known, Lay.len, Lay.lens]) _ rfl rfl ?_
  refine AL_ev (Ev_assign) rfl ?_
  refine AL_nil ?_
  refine hK2 _ _ _ ?_
  refine AC_seq fun K3 hK3 => ?_
  refine AC_region ?_
  refine AL_ev (Ev_move) rfl ?_
  refine AL_ev (Ev_move) rfl ?_
  refine AL_fcall0 hT rfl cl85 (c_containsS ctlL s) rfl rfl ?_
  refine AL_ev (Ev_assign) rfl ?_
  refine AL_nil ?_
  refine hK3 _ _ _ ?_
  refine AC_ret ?_
  exact ret_ok hdm (.tmp rfl rfl .nil) (.cons .d .nil) rfl

set_option maxHeartbeats 1000000 in
set_option maxRecDepth 4000 in
theorem c_specControl (s : ByteArray) : PCall Tryd.prog 105 [.c (.string s)] (· = [.c (.bool (ctlB s))]) := by
  refine PCall_of (n := 32) Tryd.func105 rfl rfl (Nat.le_of_ble_eq_true rfl) fun C hdm hT0 => ?_
  have hT := hT0
  refine AC_seq fun K1 hK1 => ?_
  refine AC_region ?_
  refine AL_ev (Ev_assign) rfl ?_
  refine AL_nil ?_
  refine hK1 _ _ _ ?_
  refine AC_seq fun K2 hK2 => ?_
  refine AC_seq fun K3 hK3 => ?_
  refine AC_region ?_
  refine AL_ev (Ev_move) rfl ?_
  refine AL_nil ?_
  refine hK3 _ _ _ ?_
  refine AC_block ?_
  refine AC_seq fun K4 hK4 => ?_
  refine AC_seq fun K5 hK5 => ?_
  refine AC_region ?_
  refine AL_ev (Ev_seql rfl rfl) rfl ?_
  refine AL_ev (Ev_assign) rfl ?_
  refine AL_nil ?_
  refine hK5 _ _ _ ?_
  refine AC_cond rfl (fun hc1 => ?_) (fun hc1 => ?_)
  · skip
    refine AC_skip ?_
    refine hK4 _ _ _ ?_
    first | refine AC_cond_t rfl ?_ | refine AC_cond_t (congrArg bl hc1) ?_
    refine AC_seq fun K6 hK6 => ?_
    refine AC_region ?_
    refine AL_ev (Ev_assign) rfl ?_
    refine AL_nil ?_
    refine hK6 _ _ _ ?_
    refine AC_ret ?_
    refine ret_ok hdm (.tmp rfl rfl .nil) (.cons .d .nil) ?_
    simp only [decide_eq_true_eq, decide_eq_false_iff_not] at *
    first
      | (subst_vars; rfl)
      | (have hcf : ctlB s = false := by
          simp only [ctlB, ctlL, hasS, Bool.or_false, Bool.or_eq_false_iff, decide_eq_false_iff_not]
          and_intros <;> (intro h; subst h; simp_all)
         rw [hcf])
  · skip
    refine AC_seq fun K7 hK7 => ?_
    refine AC_region ?_
    refine AL_ev (Ev_seql rfl rfl) rfl ?_
    refine AL_ev (Ev_assign) rfl ?_
    refine AL_nil ?_
    refine hK7 _ _ _ ?_
    refine AC_cond rfl (fun hc2 => ?_) (fun hc2 => ?_)
    · skip
      refine AC_skip ?_
      refine hK4 _ _ _ ?_
      first | refine AC_cond_t rfl ?_ | refine AC_cond_t (congrArg bl hc2) ?_
      refine AC_seq fun K8 hK8 => ?_
      refine AC_region ?_
      refine AL_ev (Ev_assign) rfl ?_
      refine AL_nil ?_
      refine hK8 _ _ _ ?_
      refine AC_ret ?_
      refine ret_ok hdm (.tmp rfl rfl .nil) (.cons .d .nil) ?_
      simp only [decide_eq_true_eq, decide_eq_false_iff_not] at *
      first
        | (subst_vars; rfl)
        | (have hcf : ctlB s = false := by
            simp only [ctlB, ctlL, hasS, Bool.or_false, Bool.or_eq_false_iff, decide_eq_false_iff_not]
            and_intros <;> (intro h; subst h; simp_all)
           rw [hcf])
    · skip
      refine AC_seq fun K9 hK9 => ?_
      refine AC_region ?_
      refine AL_ev (Ev_seql rfl rfl) rfl ?_
      refine AL_ev (Ev_assign) rfl ?_
      refine AL_nil ?_
      refine hK9 _ _ _ ?_
      refine AC_cond rfl (fun hc3 => ?_) (fun hc3 => ?_)
      · skip
        refine AC_skip ?_
        refine hK4 _ _ _ ?_
        first | refine AC_cond_t rfl ?_ | refine AC_cond_t (congrArg bl hc3) ?_
        refine AC_seq fun K10 hK10 => ?_
        refine AC_region ?_
        refine AL_ev (Ev_assign) rfl ?_
        refine AL_nil ?_
        refine hK10 _ _ _ ?_
        refine AC_ret ?_
        refine ret_ok hdm (.tmp rfl rfl .nil) (.cons .d .nil) ?_
        simp only [decide_eq_true_eq, decide_eq_false_iff_not] at *
        first
          | (subst_vars; rfl)
          | (have hcf : ctlB s = false := by
              simp only [ctlB, ctlL, hasS, Bool.or_false, Bool.or_eq_false_iff, decide_eq_false_iff_not]
              and_intros <;> (intro h; subst h; simp_all)
             rw [hcf])
      · skip
        refine AC_seq fun K11 hK11 => ?_
        refine AC_region ?_
        refine AL_ev (Ev_seql rfl rfl) rfl ?_
        refine AL_ev (Ev_assign) rfl ?_
        refine AL_nil ?_
        refine hK11 _ _ _ ?_
        refine AC_cond rfl (fun hc4 => ?_) (fun hc4 => ?_)
        · skip
          refine AC_skip ?_
          refine hK4 _ _ _ ?_
          first | refine AC_cond_t rfl ?_ | refine AC_cond_t (congrArg bl hc4) ?_
          refine AC_seq fun K12 hK12 => ?_
          refine AC_region ?_
          refine AL_ev (Ev_assign) rfl ?_
          refine AL_nil ?_
          refine hK12 _ _ _ ?_
          refine AC_ret ?_
          refine ret_ok hdm (.tmp rfl rfl .nil) (.cons .d .nil) ?_
          simp only [decide_eq_true_eq, decide_eq_false_iff_not] at *
          first
            | (subst_vars; rfl)
            | (have hcf : ctlB s = false := by
                simp only [ctlB, ctlL, hasS, Bool.or_false, Bool.or_eq_false_iff, decide_eq_false_iff_not]
                and_intros <;> (intro h; subst h; simp_all)
               rw [hcf])
        · skip
          refine AC_seq fun K13 hK13 => ?_
          refine AC_region ?_
          refine AL_ev (Ev_seql rfl rfl) rfl ?_
          refine AL_ev (Ev_assign) rfl ?_
          refine AL_nil ?_
          refine hK13 _ _ _ ?_
          refine AC_cond rfl (fun hc5 => ?_) (fun hc5 => ?_)
          · skip
            refine AC_skip ?_
            refine hK4 _ _ _ ?_
            first | refine AC_cond_t rfl ?_ | refine AC_cond_t (congrArg bl hc5) ?_
            refine AC_seq fun K14 hK14 => ?_
            refine AC_region ?_
            refine AL_ev (Ev_assign) rfl ?_
            refine AL_nil ?_
            refine hK14 _ _ _ ?_
            refine AC_ret ?_
            refine ret_ok hdm (.tmp rfl rfl .nil) (.cons .d .nil) ?_
            simp only [decide_eq_true_eq, decide_eq_false_iff_not] at *
            first
              | (subst_vars; rfl)
              | (have hcf : ctlB s = false := by
                  simp only [ctlB, ctlL, hasS, Bool.or_false, Bool.or_eq_false_iff, decide_eq_false_iff_not]
                  and_intros <;> (intro h; subst h; simp_all)
                 rw [hcf])
          · skip
            refine AC_seq fun K15 hK15 => ?_
            refine AC_region ?_
            refine AL_ev (Ev_seql rfl rfl) rfl ?_
            refine AL_ev (Ev_assign) rfl ?_
            refine AL_nil ?_
            refine hK15 _ _ _ ?_
            refine AC_cond rfl (fun hc6 => ?_) (fun hc6 => ?_)
            · skip
              refine AC_skip ?_
              refine hK4 _ _ _ ?_
              first | refine AC_cond_t rfl ?_ | refine AC_cond_t (congrArg bl hc6) ?_
              refine AC_seq fun K16 hK16 => ?_
              refine AC_region ?_
              refine AL_ev (Ev_assign) rfl ?_
              refine AL_nil ?_
              refine hK16 _ _ _ ?_
              refine AC_ret ?_
              refine ret_ok hdm (.tmp rfl rfl .nil) (.cons .d .nil) ?_
              simp only [decide_eq_true_eq, decide_eq_false_iff_not] at *
              first
                | (subst_vars; rfl)
                | (have hcf : ctlB s = false := by
                    simp only [ctlB, ctlL, hasS, Bool.or_false, Bool.or_eq_false_iff, decide_eq_false_iff_not]
                    and_intros <;> (intro h; subst h; simp_all)
                   rw [hcf])
            · skip
              refine AC_seq fun K17 hK17 => ?_
              refine AC_region ?_
              refine AL_ev (Ev_seql rfl rfl) rfl ?_
              refine AL_ev (Ev_assign) rfl ?_
              refine AL_nil ?_
              refine hK17 _ _ _ ?_
              refine AC_cond rfl (fun hc7 => ?_) (fun hc7 => ?_)
              · skip
                refine AC_skip ?_
                refine hK4 _ _ _ ?_
                first | refine AC_cond_t rfl ?_ | refine AC_cond_t (congrArg bl hc7) ?_
                refine AC_seq fun K18 hK18 => ?_
                refine AC_region ?_
                refine AL_ev (Ev_assign) rfl ?_
                refine AL_nil ?_
                refine hK18 _ _ _ ?_
                refine AC_ret ?_
                refine ret_ok hdm (.tmp rfl rfl .nil) (.cons .d .nil) ?_
                simp only [decide_eq_true_eq, decide_eq_false_iff_not] at *
                first
                  | (subst_vars; rfl)
                  | (have hcf : ctlB s = false := by
                      simp only [ctlB, ctlL, hasS, Bool.or_false, Bool.or_eq_false_iff, decide_eq_false_iff_not]
                      and_intros <;> (intro h; subst h; simp_all)
                     rw [hcf])
              · skip
                refine AC_seq fun K19 hK19 => ?_
                refine AC_region ?_
                refine AL_ev (Ev_seql rfl rfl) rfl ?_
                refine AL_ev (Ev_assign) rfl ?_
                refine AL_nil ?_
                refine hK19 _ _ _ ?_
                refine AC_cond rfl (fun hc8 => ?_) (fun hc8 => ?_)
                · skip
                  refine AC_skip ?_
                  refine hK4 _ _ _ ?_
                  first | refine AC_cond_t rfl ?_ | refine AC_cond_t (congrArg bl hc8) ?_
                  refine AC_seq fun K20 hK20 => ?_
                  refine AC_region ?_
                  refine AL_ev (Ev_assign) rfl ?_
                  refine AL_nil ?_
                  refine hK20 _ _ _ ?_
                  refine AC_ret ?_
                  refine ret_ok hdm (.tmp rfl rfl .nil) (.cons .d .nil) ?_
                  simp only [decide_eq_true_eq, decide_eq_false_iff_not] at *
                  first
                    | (subst_vars; rfl)
                    | (have hcf : ctlB s = false := by
                        simp only [ctlB, ctlL, hasS, Bool.or_false, Bool.or_eq_false_iff, decide_eq_false_iff_not]
                        and_intros <;> (intro h; subst h; simp_all)
                       rw [hcf])
                · skip
                  refine AC_seq fun K21 hK21 => ?_
                  refine AC_region ?_
                  refine AL_ev (Ev_seql rfl rfl) rfl ?_
                  refine AL_ev (Ev_assign) rfl ?_
                  refine AL_nil ?_
                  refine hK21 _ _ _ ?_
                  refine AC_cond rfl (fun hc9 => ?_) (fun hc9 => ?_)
                  · skip
                    refine AC_skip ?_
                    refine hK4 _ _ _ ?_
                    first | refine AC_cond_t rfl ?_ | refine AC_cond_t (congrArg bl hc9) ?_
                    refine AC_seq fun K22 hK22 => ?_
                    refine AC_region ?_
                    refine AL_ev (Ev_assign) rfl ?_
                    refine AL_nil ?_
                    refine hK22 _ _ _ ?_
                    refine AC_ret ?_
                    refine ret_ok hdm (.tmp rfl rfl .nil) (.cons .d .nil) ?_
                    simp only [decide_eq_true_eq, decide_eq_false_iff_not] at *
                    first
                      | (subst_vars; rfl)
                      | (have hcf : ctlB s = false := by
                          simp only [ctlB, ctlL, hasS, Bool.or_false, Bool.or_eq_false_iff, decide_eq_false_iff_not]
                          and_intros <;> (intro h; subst h; simp_all)
                         rw [hcf])
                  · skip
                    refine AC_seq fun K23 hK23 => ?_
                    refine AC_region ?_
                    refine AL_ev (Ev_seql rfl rfl) rfl ?_
                    refine AL_ev (Ev_assign) rfl ?_
                    refine AL_nil ?_
                    refine hK23 _ _ _ ?_
                    refine AC_cond rfl (fun hc10 => ?_) (fun hc10 => ?_)
                    · skip
                      refine AC_skip ?_
                      refine hK4 _ _ _ ?_
                      first | refine AC_cond_t rfl ?_ | refine AC_cond_t (congrArg bl hc10) ?_
                      refine AC_seq fun K24 hK24 => ?_
                      refine AC_region ?_
                      refine AL_ev (Ev_assign) rfl ?_
                      refine AL_nil ?_
                      refine hK24 _ _ _ ?_
                      refine AC_ret ?_
                      refine ret_ok hdm (.tmp rfl rfl .nil) (.cons .d .nil) ?_
                      simp only [decide_eq_true_eq, decide_eq_false_iff_not] at *
                      first
                        | (subst_vars; rfl)
                        | (have hcf : ctlB s = false := by
                            simp only [ctlB, ctlL, hasS, Bool.or_false, Bool.or_eq_false_iff, decide_eq_false_iff_not]
                            and_intros <;> (intro h; subst h; simp_all)
                           rw [hcf])
                    · skip
                      refine AC_seq fun K25 hK25 => ?_
                      refine AC_region ?_
                      refine AL_ev (Ev_seql rfl rfl) rfl ?_
                      refine AL_ev (Ev_assign) rfl ?_
                      refine AL_nil ?_
                      refine hK25 _ _ _ ?_
                      refine AC_cond rfl (fun hc11 => ?_) (fun hc11 => ?_)
                      · skip
                        refine AC_skip ?_
                        refine hK4 _ _ _ ?_
                        first | refine AC_cond_t rfl ?_ | refine AC_cond_t (congrArg bl hc11) ?_
                        refine AC_seq fun K26 hK26 => ?_
                        refine AC_region ?_
                        refine AL_ev (Ev_assign) rfl ?_
                        refine AL_nil ?_
                        refine hK26 _ _ _ ?_
                        refine AC_ret ?_
                        refine ret_ok hdm (.tmp rfl rfl .nil) (.cons .d .nil) ?_
                        simp only [decide_eq_true_eq, decide_eq_false_iff_not] at *
                        first
                          | (subst_vars; rfl)
                          | (have hcf : ctlB s = false := by
                              simp only [ctlB, ctlL, hasS, Bool.or_false, Bool.or_eq_false_iff, decide_eq_false_iff_not]
                              and_intros <;> (intro h; subst h; simp_all)
                             rw [hcf])
                      · skip
                        refine AC_region ?_
                        refine AL_ev (Ev_seql rfl rfl) rfl ?_
                        refine AL_ev (Ev_assign) rfl ?_
                        refine AL_nil ?_
                        refine hK4 _ _ _ ?_
                        refine AC_cond rfl (fun hc12 => ?_) (fun hc12 => ?_)
                        · skip
                          refine AC_seq fun K27 hK27 => ?_
                          refine AC_region ?_
                          refine AL_ev (Ev_assign) rfl ?_
                          refine AL_nil ?_
                          refine hK27 _ _ _ ?_
                          refine AC_ret ?_
                          refine ret_ok hdm (.tmp rfl rfl .nil) (.cons .d .nil) ?_
                          simp only [decide_eq_true_eq, decide_eq_false_iff_not] at *
                          first
                            | (subst_vars; rfl)
                            | (have hcf : ctlB s = false := by
                                simp only [ctlB, ctlL, hasS, Bool.or_false, Bool.or_eq_false_iff, decide_eq_false_iff_not]
                                and_intros <;> (intro h; subst h; simp_all)
                               rw [hcf])
                        · skip
                          refine AC_seq fun K28 hK28 => ?_
                          refine AC_seq fun K29 hK29 => ?_
                          refine AC_region ?_
                          refine AL_ev (Ev_seql rfl rfl) rfl ?_
                          refine AL_ev (Ev_assign) rfl ?_
                          refine AL_nil ?_
                          refine hK29 _ _ _ ?_
                          refine AC_cond rfl (fun hc13 => ?_) (fun hc13 => ?_)
                          · skip
                            refine AC_skip ?_
                            refine hK28 _ _ _ ?_
                            first | refine AC_cond_t rfl ?_ | refine AC_cond_t (congrArg bl hc13) ?_
                            refine AC_seq fun K30 hK30 => ?_
                            refine AC_region ?_
                            refine AL_ev (Ev_assign) rfl ?_
                            refine AL_nil ?_
                            refine hK30 _ _ _ ?_
                            refine AC_ret ?_
                            refine ret_ok hdm (.tmp rfl rfl .nil) (.cons .d .nil) ?_
                            simp only [decide_eq_true_eq, decide_eq_false_iff_not] at *
                            first
                              | (subst_vars; rfl)
                              | (have hcf : ctlB s = false := by
                                  simp only [ctlB, ctlL, hasS, Bool.or_false, Bool.or_eq_false_iff, decide_eq_false_iff_not]
                                  and_intros <;> (intro h; subst h; simp_all)
                                 rw [hcf])
                          · skip
                            refine AC_seq fun K31 hK31 => ?_
                            refine AC_region ?_
                            refine AL_ev (Ev_seql rfl rfl) rfl ?_
                            refine AL_ev (Ev_assign) rfl ?_
                            refine AL_nil ?_
                            refine hK31 _ _ _ ?_
                            refine AC_cond rfl (fun hc14 => ?_) (fun hc14 => ?_)
                            · skip
                              refine AC_skip ?_
                              refine hK28 _ _ _ ?_
                              first | refine AC_cond_t rfl ?_ | refine AC_cond_t (congrArg bl hc14) ?_
                              refine AC_seq fun K32 hK32 => ?_
                              refine AC_region ?_
                              refine AL_ev (Ev_assign) rfl ?_
                              refine AL_nil ?_
                              refine hK32 _ _ _ ?_
                              refine AC_ret ?_
                              refine ret_ok hdm (.tmp rfl rfl .nil) (.cons .d .nil) ?_
                              simp only [decide_eq_true_eq, decide_eq_false_iff_not] at *
                              first
                                | (subst_vars; rfl)
                                | (have hcf : ctlB s = false := by
                                    simp only [ctlB, ctlL, hasS, Bool.or_false, Bool.or_eq_false_iff, decide_eq_false_iff_not]
                                    and_intros <;> (intro h; subst h; simp_all)
                                   rw [hcf])
                            · skip
                              refine AC_seq fun K33 hK33 => ?_
                              refine AC_region ?_
                              refine AL_ev (Ev_seql rfl rfl) rfl ?_
                              refine AL_ev (Ev_assign) rfl ?_
                              refine AL_nil ?_
                              refine hK33 _ _ _ ?_
                              refine AC_cond rfl (fun hc15 => ?_) (fun hc15 => ?_)
                              · skip
                                refine AC_skip ?_
                                refine hK28 _ _ _ ?_
                                first | refine AC_cond_t rfl ?_ | refine AC_cond_t (congrArg bl hc15) ?_
                                refine AC_seq fun K34 hK34 => ?_
                                refine AC_region ?_
                                refine AL_ev (Ev_assign) rfl ?_
                                refine AL_nil ?_
                                refine hK34 _ _ _ ?_
                                refine AC_ret ?_
                                refine ret_ok hdm (.tmp rfl rfl .nil) (.cons .d .nil) ?_
                                simp only [decide_eq_true_eq, decide_eq_false_iff_not] at *
                                first
                                  | (subst_vars; rfl)
                                  | (have hcf : ctlB s = false := by
                                      simp only [ctlB, ctlL, hasS, Bool.or_false, Bool.or_eq_false_iff, decide_eq_false_iff_not]
                                      and_intros <;> (intro h; subst h; simp_all)
                                     rw [hcf])
                              · skip
                                refine AC_seq fun K35 hK35 => ?_
                                refine AC_region ?_
                                refine AL_ev (Ev_seql rfl rfl) rfl ?_
                                refine AL_ev (Ev_assign) rfl ?_
                                refine AL_nil ?_
                                refine hK35 _ _ _ ?_
                                refine AC_cond rfl (fun hc16 => ?_) (fun hc16 => ?_)
                                · skip
                                  refine AC_skip ?_
                                  refine hK28 _ _ _ ?_
                                  first | refine AC_cond_t rfl ?_ | refine AC_cond_t (congrArg bl hc16) ?_
                                  refine AC_seq fun K36 hK36 => ?_
                                  refine AC_region ?_
                                  refine AL_ev (Ev_assign) rfl ?_
                                  refine AL_nil ?_
                                  refine hK36 _ _ _ ?_
                                  refine AC_ret ?_
                                  refine ret_ok hdm (.tmp rfl rfl .nil) (.cons .d .nil) ?_
                                  simp only [decide_eq_true_eq, decide_eq_false_iff_not] at *
                                  first
                                    | (subst_vars; rfl)
                                    | (have hcf : ctlB s = false := by
                                        simp only [ctlB, ctlL, hasS, Bool.or_false, Bool.or_eq_false_iff, decide_eq_false_iff_not]
                                        and_intros <;> (intro h; subst h; simp_all)
                                       rw [hcf])
                                · skip
                                  refine AC_seq fun K37 hK37 => ?_
                                  refine AC_region ?_
                                  refine AL_ev (Ev_seql rfl rfl) rfl ?_
                                  refine AL_ev (Ev_assign) rfl ?_
                                  refine AL_nil ?_
                                  refine hK37 _ _ _ ?_
                                  refine AC_cond rfl (fun hc17 => ?_) (fun hc17 => ?_)
                                  · skip
                                    refine AC_skip ?_
                                    refine hK28 _ _ _ ?_
                                    first | refine AC_cond_t rfl ?_ | refine AC_cond_t (congrArg bl hc17) ?_
                                    refine AC_seq fun K38 hK38 => ?_
                                    refine AC_region ?_
                                    refine AL_ev (Ev_assign) rfl ?_
                                    refine AL_nil ?_
                                    refine hK38 _ _ _ ?_
                                    refine AC_ret ?_
                                    refine ret_ok hdm (.tmp rfl rfl .nil) (.cons .d .nil) ?_
                                    simp only [decide_eq_true_eq, decide_eq_false_iff_not] at *
                                    first
                                      | (subst_vars; rfl)
                                      | (have hcf : ctlB s = false := by
                                          simp only [ctlB, ctlL, hasS, Bool.or_false, Bool.or_eq_false_iff, decide_eq_false_iff_not]
                                          and_intros <;> (intro h; subst h; simp_all)
                                         rw [hcf])
                                  · skip
                                    refine AC_seq fun K39 hK39 => ?_
                                    refine AC_region ?_
                                    refine AL_ev (Ev_seql rfl rfl) rfl ?_
                                    refine AL_ev (Ev_assign) rfl ?_
                                    refine AL_nil ?_
                                    refine hK39 _ _ _ ?_
                                    refine AC_cond rfl (fun hc18 => ?_) (fun hc18 => ?_)
                                    · skip
                                      refine AC_skip ?_
                                      refine hK28 _ _ _ ?_
                                      first | refine AC_cond_t rfl ?_ | refine AC_cond_t (congrArg bl hc18) ?_
                                      refine AC_seq fun K40 hK40 => ?_
                                      refine AC_region ?_
                                      refine AL_ev (Ev_assign) rfl ?_
                                      refine AL_nil ?_
                                      refine hK40 _ _ _ ?_
                                      refine AC_ret ?_
                                      refine ret_ok hdm (.tmp rfl rfl .nil) (.cons .d .nil) ?_
                                      simp only [decide_eq_true_eq, decide_eq_false_iff_not] at *
                                      first
                                        | (subst_vars; rfl)
                                        | (have hcf : ctlB s = false := by
                                            simp only [ctlB, ctlL, hasS, Bool.or_false, Bool.or_eq_false_iff, decide_eq_false_iff_not]
                                            and_intros <;> (intro h; subst h; simp_all)
                                           rw [hcf])
                                    · skip
                                      refine AC_seq fun K41 hK41 => ?_
                                      refine AC_region ?_
                                      refine AL_ev (Ev_seql rfl rfl) rfl ?_
                                      refine AL_ev (Ev_assign) rfl ?_
                                      refine AL_nil ?_
                                      refine hK41 _ _ _ ?_
                                      refine AC_cond rfl (fun hc19 => ?_) (fun hc19 => ?_)
                                      · skip
                                        refine AC_skip ?_
                                        refine hK28 _ _ _ ?_
                                        first | refine AC_cond_t rfl ?_ | refine AC_cond_t (congrArg bl hc19) ?_
                                        refine AC_seq fun K42 hK42 => ?_
                                        refine AC_region ?_
                                        refine AL_ev (Ev_assign) rfl ?_
                                        refine AL_nil ?_
                                        refine hK42 _ _ _ ?_
                                        refine AC_ret ?_
                                        refine ret_ok hdm (.tmp rfl rfl .nil) (.cons .d .nil) ?_
                                        simp only [decide_eq_true_eq, decide_eq_false_iff_not] at *
                                        first
                                          | (subst_vars; rfl)
                                          | (have hcf : ctlB s = false := by
                                              simp only [ctlB, ctlL, hasS, Bool.or_false, Bool.or_eq_false_iff, decide_eq_false_iff_not]
                                              and_intros <;> (intro h; subst h; simp_all)
                                             rw [hcf])
                                      · skip
                                        refine AC_seq fun K43 hK43 => ?_
                                        refine AC_region ?_
                                        refine AL_ev (Ev_seql rfl rfl) rfl ?_
                                        refine AL_ev (Ev_assign) rfl ?_
                                        refine AL_nil ?_
                                        refine hK43 _ _ _ ?_
                                        refine AC_cond rfl (fun hc20 => ?_) (fun hc20 => ?_)
                                        · skip
                                          refine AC_skip ?_
                                          refine hK28 _ _ _ ?_
                                          first | refine AC_cond_t rfl ?_ | refine AC_cond_t (congrArg bl hc20) ?_
                                          refine AC_seq fun K44 hK44 => ?_
                                          refine AC_region ?_
                                          refine AL_ev (Ev_assign) rfl ?_
                                          refine AL_nil ?_
                                          refine hK44 _ _ _ ?_
                                          refine AC_ret ?_
                                          refine ret_ok hdm (.tmp rfl rfl .nil) (.cons .d .nil) ?_
                                          simp only [decide_eq_true_eq, decide_eq_false_iff_not] at *
                                          first
                                            | (subst_vars; rfl)
                                            | (have hcf : ctlB s = false := by
                                                simp only [ctlB, ctlL, hasS, Bool.or_false, Bool.or_eq_false_iff, decide_eq_false_iff_not]
                                                and_intros <;> (intro h; subst h; simp_all)
                                               rw [hcf])
                                        · skip
                                          refine AC_seq fun K45 hK45 => ?_
                                          refine AC_region ?_
                                          refine AL_ev (Ev_seql rfl rfl) rfl ?_
                                          refine AL_ev (Ev_assign) rfl ?_
                                          refine AL_nil ?_
                                          refine hK45 _ _ _ ?_
                                          refine AC_cond rfl (fun hc21 => ?_) (fun hc21 => ?_)
                                          · skip
                                            refine AC_skip ?_
                                            refine hK28 _ _ _ ?_
                                            first | refine AC_cond_t rfl ?_ | refine AC_cond_t (congrArg bl hc21) ?_
                                            refine AC_seq fun K46 hK46 => ?_
                                            refine AC_region ?_
                                            refine AL_ev (Ev_assign) rfl ?_
                                            refine AL_nil ?_
                                            refine hK46 _ _ _ ?_
                                            refine AC_ret ?_
                                            refine ret_ok hdm (.tmp rfl rfl .nil) (.cons .d .nil) ?_
                                            simp only [decide_eq_true_eq, decide_eq_false_iff_not] at *
                                            first
                                              | (subst_vars; rfl)
                                              | (have hcf : ctlB s = false := by
                                                  simp only [ctlB, ctlL, hasS, Bool.or_false, Bool.or_eq_false_iff, decide_eq_false_iff_not]
                                                  and_intros <;> (intro h; subst h; simp_all)
                                                 rw [hcf])
                                          · skip
                                            refine AC_seq fun K47 hK47 => ?_
                                            refine AC_region ?_
                                            refine AL_ev (Ev_seql rfl rfl) rfl ?_
                                            refine AL_ev (Ev_assign) rfl ?_
                                            refine AL_nil ?_
                                            refine hK47 _ _ _ ?_
                                            refine AC_cond rfl (fun hc22 => ?_) (fun hc22 => ?_)
                                            · skip
                                              refine AC_skip ?_
                                              refine hK28 _ _ _ ?_
                                              first | refine AC_cond_t rfl ?_ | refine AC_cond_t (congrArg bl hc22) ?_
                                              refine AC_seq fun K48 hK48 => ?_
                                              refine AC_region ?_
                                              refine AL_ev (Ev_assign) rfl ?_
                                              refine AL_nil ?_
                                              refine hK48 _ _ _ ?_
                                              refine AC_ret ?_
                                              refine ret_ok hdm (.tmp rfl rfl .nil) (.cons .d .nil) ?_
                                              simp only [decide_eq_true_eq, decide_eq_false_iff_not] at *
                                              first
                                                | (subst_vars; rfl)
                                                | (have hcf : ctlB s = false := by
                                                    simp only [ctlB, ctlL, hasS, Bool.or_false, Bool.or_eq_false_iff, decide_eq_false_iff_not]
                                                    and_intros <;> (intro h; subst h; simp_all)
                                                   rw [hcf])
                                            · skip
                                              refine AC_seq fun K49 hK49 => ?_
                                              refine AC_region ?_
                                              refine AL_ev (Ev_seql rfl rfl) rfl ?_
                                              refine AL_ev (Ev_assign) rfl ?_
                                              refine AL_nil ?_
                                              refine hK49 _ _ _ ?_
                                              refine AC_cond rfl (fun hc23 => ?_) (fun hc23 => ?_)
                                              · skip
                                                refine AC_skip ?_
                                                refine hK28 _ _ _ ?_
                                                first | refine AC_cond_t rfl ?_ | refine AC_cond_t (congrArg bl hc23) ?_
                                                refine AC_seq fun K50 hK50 => ?_
                                                refine AC_region ?_
                                                refine AL_ev (Ev_assign) rfl ?_
                                                refine AL_nil ?_
                                                refine hK50 _ _ _ ?_
                                                refine AC_ret ?_
                                                refine ret_ok hdm (.tmp rfl rfl .nil) (.cons .d .nil) ?_
                                                simp only [decide_eq_true_eq, decide_eq_false_iff_not] at *
                                                first
                                                  | (subst_vars; rfl)
                                                  | (have hcf : ctlB s = false := by
                                                      simp only [ctlB, ctlL, hasS, Bool.or_false, Bool.or_eq_false_iff, decide_eq_false_iff_not]
                                                      and_intros <;> (intro h; subst h; simp_all)
                                                     rw [hcf])
                                              · skip
                                                refine AC_seq fun K51 hK51 => ?_
                                                refine AC_region ?_
                                                refine AL_ev (Ev_seql rfl rfl) rfl ?_
                                                refine AL_ev (Ev_assign) rfl ?_
                                                refine AL_nil ?_
                                                refine hK51 _ _ _ ?_
                                                refine AC_cond rfl (fun hc24 => ?_) (fun hc24 => ?_)
                                                · skip
                                                  refine AC_skip ?_
                                                  refine hK28 _ _ _ ?_
                                                  first | refine AC_cond_t rfl ?_ | refine AC_cond_t (congrArg bl hc24) ?_
                                                  refine AC_seq fun K52 hK52 => ?_
                                                  refine AC_region ?_
                                                  refine AL_ev (Ev_assign) rfl ?_
                                                  refine AL_nil ?_
                                                  refine hK52 _ _ _ ?_
                                                  refine AC_ret ?_
                                                  refine ret_ok hdm (.tmp rfl rfl .nil) (.cons .d .nil) ?_
                                                  simp only [decide_eq_true_eq, decide_eq_false_iff_not] at *
                                                  first
                                                    | (subst_vars; rfl)
                                                    | (have hcf : ctlB s = false := by
                                                        simp only [ctlB, ctlL, hasS, Bool.or_false, Bool.or_eq_false_iff, decide_eq_false_iff_not]
                                                        and_intros <;> (intro h; subst h; simp_all)
                                                       rw [hcf])
                                                · skip
                                                  refine AC_seq fun K53 hK53 => ?_
                                                  refine AC_region ?_
                                                  refine AL_ev (Ev_seql rfl rfl) rfl ?_
                                                  refine AL_ev (Ev_assign) rfl ?_
                                                  refine AL_nil ?_
                                                  refine hK53 _ _ _ ?_
                                                  refine AC_cond rfl (fun hc25 => ?_) (fun hc25 => ?_)
                                                  · skip
                                                    refine AC_skip ?_
                                                    refine hK28 _ _ _ ?_
                                                    first | refine AC_cond_t rfl ?_ | refine AC_cond_t (congrArg bl hc25) ?_
                                                    refine AC_seq fun K54 hK54 => ?_
                                                    refine AC_region ?_
                                                    refine AL_ev (Ev_assign) rfl ?_
                                                    refine AL_nil ?_
                                                    refine hK54 _ _ _ ?_
                                                    refine AC_ret ?_
                                                    refine ret_ok hdm (.tmp rfl rfl .nil) (.cons .d .nil) ?_
                                                    simp only [decide_eq_true_eq, decide_eq_false_iff_not] at *
                                                    first
                                                      | (subst_vars; rfl)
                                                      | (have hcf : ctlB s = false := by
                                                          simp only [ctlB, ctlL, hasS, Bool.or_false, Bool.or_eq_false_iff, decide_eq_false_iff_not]
                                                          and_intros <;> (intro h; subst h; simp_all)
                                                         rw [hcf])
                                                  · skip
                                                    refine AC_region ?_
                                                    refine AL_ev (Ev_seql rfl rfl) rfl ?_
                                                    refine AL_ev (Ev_assign) rfl ?_
                                                    refine AL_nil ?_
                                                    refine hK28 _ _ _ ?_
                                                    refine AC_cond rfl (fun hc26 => ?_) (fun hc26 => ?_)
                                                    · skip
                                                      refine AC_seq fun K55 hK55 => ?_
                                                      refine AC_region ?_
                                                      refine AL_ev (Ev_assign) rfl ?_
                                                      refine AL_nil ?_
                                                      refine hK55 _ _ _ ?_
                                                      refine AC_ret ?_
                                                      refine ret_ok hdm (.tmp rfl rfl .nil) (.cons .d .nil) ?_
                                                      simp only [decide_eq_true_eq, decide_eq_false_iff_not] at *
                                                      first
                                                        | (subst_vars; rfl)
                                                        | (have hcf : ctlB s = false := by
                                                            simp only [ctlB, ctlL, hasS, Bool.or_false, Bool.or_eq_false_iff, decide_eq_false_iff_not]
                                                            and_intros <;> (intro h; subst h; simp_all)
                                                           rw [hcf])
                                                    · skip
                                                      refine AC_skip ?_
                                                      refine hK2 _ _ _ ?_
                                                      refine AC_seq fun K56 hK56 => ?_
                                                      refine AC_region ?_
                                                      refine AL_ev (Ev_assign) rfl ?_
                                                      refine AL_nil ?_
                                                      refine hK56 _ _ _ ?_
                                                      refine AC_ret ?_
                                                      refine ret_ok hdm (.tmp rfl rfl .nil) (.cons .d .nil) ?_
                                                      simp only [decide_eq_true_eq, decide_eq_false_iff_not] at *
                                                      first
                                                        | (subst_vars; rfl)
                                                        | (have hcf : ctlB s = false := by
                                                            simp only [ctlB, ctlL, hasS, Bool.or_false, Bool.or_eq_false_iff, decide_eq_false_iff_not]
                                                            and_intros <;> (intro h; subst h; simp_all)
                                                           rw [hcf])

end Go.Proofs.YtleahipnknainaaDoor
