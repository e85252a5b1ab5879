/- Contracts of functions. -/
import Derived.Test.YtjhdkjacfclipaaMt
import Derived.Test.YtjhdkjacfclipaaOk
import Derived.Test.YtjhdkjacfclipaaWn
import Derived.Test.YtjhdkjacfclipaaEng27
import Derived.Test.YtjhdkjacfclipaaProg
import Derived.KernelRfl
set_option linter.unusedVariables false
set_option linter.unusedSimpArgs false
namespace Go.Proofs.Ytjhdkjacfclipaa
open Go.Eng

theorem tz35 : tyZero Try.prog 35 = some (some (.agg #[.int .i64 0, .string ⟨#[]⟩, .int .i64 0, .slice none 0 0])) := by kernel_rfl
theorem tz5 : tyZero Try.prog 5 = some (some (.int .u8 0)) := by kernel_rfl
theorem cl11 : Callable Try.prog 11 := Callable_of Try.func11 (by kernel_rfl) (by kernel_rfl)
theorem cl12 : Callable Try.prog 12 := Callable_of Try.func12 (by kernel_rfl) (by kernel_rfl)
theorem cl36 : Callable Try.prog 36 := Callable_of Try.func36 (by kernel_rfl) (by kernel_rfl)
theorem cl38 : Callable Try.prog 38 := Callable_of Try.func38 (by kernel_rfl) (by kernel_rfl)
theorem cl39 : Callable Try.prog 39 := Callable_of Try.func39 (by kernel_rfl) (by kernel_rfl)
theorem cl44 : Callable Try.prog 44 := Callable_of Try.func44 (by kernel_rfl) (by kernel_rfl)
theorem cl45 : Callable Try.prog 45 := Callable_of Try.func45 (by kernel_rfl) (by kernel_rfl)
theorem cl65 : Callable Try.prog 65 := Callable_of Try.func65 (by kernel_rfl) (by kernel_rfl)
theorem cl7 : Callable Try.prog 7 := Callable_of Try.func7 (by kernel_rfl) (by kernel_rfl)
theorem cl71 : Callable Try.prog 71 := Callable_of Try.func71 (by kernel_rfl) (by kernel_rfl)
theorem cl72 : Callable Try.prog 72 := Callable_of Try.func72 (by kernel_rfl) (by kernel_rfl)
theorem cl9 : Callable Try.prog 9 := Callable_of Try.func9 (by kernel_rfl) (by kernel_rfl)
theorem fa35_0 : tyField Try.prog 35 0 = some (0, true) := by kernel_rfl
theorem fa35_1 : tyField Try.prog 35 1 = some (1, true) := by kernel_rfl
theorem fa35_2 : tyField Try.prog 35 2 = some (2, true) := by kernel_rfl
theorem fa35_3 : tyField Try.prog 35 3 = some (3, true) := by kernel_rfl
theorem fa51_0 : tyField Try.prog 51 0 = some (0, true) := by kernel_rfl
theorem fa51_1 : tyField Try.prog 51 1 = some (1, true) := by kernel_rfl
theorem fa51_2 : tyField Try.prog 51 2 = some (2, true) := by kernel_rfl
theorem fa51_3 : tyField Try.prog 51 3 = some (3, true) := by kernel_rfl
theorem follows : Try.prog.follows .mixedOrders = true := by kernel_rfl
theorem ta22 : tyAgg Try.prog 22 = some false := by kernel_rfl
theorem ta24 : tyAgg Try.prog 24 = some false := by kernel_rfl
theorem ta3 : tyAgg Try.prog 3 = some false := by kernel_rfl
theorem ta35 : tyAgg Try.prog 35 = some true := by kernel_rfl
theorem ta51 : tyAgg Try.prog 51 = some true := by kernel_rfl
theorem ta9 : tyAgg Try.prog 9 = some false := by kernel_rfl
theorem tb35 : tyBytes Try.prog 35 = some 56 := by kernel_rfl
theorem te22 : tyElem Try.prog 22 = some 51 := by kernel_rfl
theorem te24 : tyElem Try.prog 24 = some 35 := by kernel_rfl
theorem te30 : tyElem Try.prog 30 = some 5 := by kernel_rfl
theorem tint5 : tyInt Try.prog 5 = some .u8 := by kernel_rfl
theorem ts22 : tySize Try.prog 22 = some 1 := by kernel_rfl
theorem ts24 : tySize Try.prog 24 = some 1 := by kernel_rfl
theorem ts3 : tySize Try.prog 3 = some 1 := by kernel_rfl
theorem ts35 : tySize Try.prog 35 = some 4 := by kernel_rfl
theorem ts5 : tySize Try.prog 5 = some 1 := by kernel_rfl
theorem ts51 : tySize Try.prog 51 = some 4 := by kernel_rfl
theorem ts9 : tySize Try.prog 9 = some 1 := by kernel_rfl
theorem tstr9 : tyStr Try.prog 9 = true := by kernel_rfl
theorem tund3 : (Try.prog.underlying 3).isSome = true := by kernel_rfl
theorem zo35 : ZeroOf Try.prog 35 (Lay.st [.one, .one, .one, .one]) (.d (.agg [.one, .one, .one, .one] [.c (.int .i64 0), .c (.string ⟨#[]⟩), .c (.int .i64 0), .c (.slice none 0 0)])) := ⟨_, tz35, rfl, fun _ _ _ => VC_cells rfl⟩

set_option maxHeartbeats 1000000 in
set_option maxRecDepth 4000 in
theorem c_renamed (g : Int → Int) (kk : FuncId) (caps : List D) (hcl : Callable Try.prog kk) (hna : caps.all (fun d => !d.isAgg) = true) (hto : ∀ m, PCall Try.prog kk ([.c (.int .i64 m)] ++ caps) (· = [.c (.int .i64 (g m))])) (t : T) : PCall Try.prog 71 [inj t, .fn kk caps] (· = [inj (rn g t)]) := by
  induction t using T.ind with | h k s m ks ih => ?_
  generalize hm2 : (if k = 1 then g m else m) = m2
  refine PCall_of (n := 35) Try.func71 rfl rfl (Nat.le_of_ble_eq_true rfl) fun C hdm hT0 => ?_
  have hT := hT0
  refine AC_seq fun K1 hK1 => ?_
  refine AC_region ?_
  refine AL_box (Lay.st [.one, .one, .one, .one]) (nf rfl) rfl (by first | rfl | simp [Lay.len, Lay.lens]) _ rfl rfl ?_
  refine AL_alloc zo35 _ rfl rfl ?_
  refine AL_nil ?_
  refine hK1 _ _ _ ?_
  refine AC_seq fun K2 hK2 => ?_
  refine AC_region ?_
  first | refine AL_ev (Ev_load_ptr rfl rfl rfl rfl rfl rfl ts35 ta35 (by first | rfl | assumption | simp) (by intro h; cases h)) rfl ?_ | refine AL_ev (Ev_load_rp rfl rfl rfl ts35 ta35 (by first | rfl | assumption | simp) (by intro h; cases h)) rfl ?_
  refine AL_alloc zo35 _ rfl rfl ?_
  first | refine AL_store rfl (nf rfl) rfl rfl rfl rfl rfl rfl (by first | rfl | assumption | simp [Lay.len, Lay.lens]) ts35 rfl rfl ?_ | refine AL_store rfl (nf rfl) rfl rfl rfl hes rfl rfl (by first | rfl | assumption | simp [Lay.len, Lay.lens]) ts35 rfl rfl ?_
  refine AL_nil ?_
  refine hK2 _ _ _ ?_
  refine AC_seq fun K3 hK3 => ?_
  refine AC_region ?_
  first | refine AL_ev (Ev_fa_ptr rfl fa35_3 rfl rfl) rfl ?_ | refine AL_ev (Ev_fa_rp rfl fa35_3 rfl rfl) rfl ?_
  first | refine AL_store rfl (nf rfl) rfl rfl rfl rfl rfl rfl (by first | rfl | assumption | simp [Lay.len, Lay.lens]) ts24 rfl rfl ?_ | refine AL_store rfl (nf rfl) rfl rfl rfl hes rfl rfl (by first | rfl | assumption | simp [Lay.len, Lay.lens]) ts24 rfl rfl ?_
  refine AL_nil ?_
  refine hK3 _ _ _ ?_
  refine AC_seqJ (fun f L => f = frOf [(1, .d (.fn kk caps)), (2, .ptr LT 0 0 []), (4, .ptr LT 1 0 []), (5, .ptr LT 2 0 [])] ∧ L = [some ⟨35, LT, [.d (inj (.mk k s m ks))]⟩, some ⟨35, LT, [.d zT]⟩, some ⟨35, LT, [.agg [.one, .one, .one, .one] [i64 k, st s, i64 m2, nilsl]]⟩]) ?_ ?_
  · skip
    refine AC_seq fun K5 hK5 => ?_
    refine AC_region ?_
    first | refine AL_ev (Ev_fa_ptr rfl fa35_0 rfl rfl) rfl ?_ | refine AL_ev (Ev_fa_rp rfl fa35_0 rfl rfl) rfl ?_
    first | refine AL_ev (Ev_load_ptr rfl rfl rfl rfl rfl rfl ts3 ta3 rfl (fun _ => rfl)) rfl ?_ | refine AL_ev (Ev_load_rp rfl rfl rfl ts3 ta3 rfl (fun _ => rfl)) rfl ?_
    refine AL_ev (Ev_eql rfl rfl) rfl ?_
    refine AL_nil ?_
    refine hK5 _ _ _ ?_
    refine AC_cond rfl (fun hc1 => ?_) (fun hc1 => ?_)
    · skip
      refine AC_region ?_
      refine AL_ev (Ev_move) rfl ?_
      first | refine AL_ev (Ev_fa_ptr rfl fa35_2 rfl rfl) rfl ?_ | refine AL_ev (Ev_fa_rp rfl fa35_2 rfl rfl) rfl ?_
      first | refine AL_ev (Ev_load_ptr rfl rfl rfl rfl rfl rfl ts3 ta3 rfl (fun _ => rfl)) rfl ?_ | refine AL_ev (Ev_load_rp rfl rfl rfl ts3 ta3 rfl (fun _ => rfl)) rfl ?_
      refine AL_fcall hT rfl hna hcl (hto m) rfl rfl ?_
      first | refine AL_ev (Ev_fa_ptr rfl fa35_2 rfl rfl) rfl ?_ | refine AL_ev (Ev_fa_rp rfl fa35_2 rfl rfl) rfl ?_
      first | refine AL_store rfl (nf rfl) rfl rfl rfl rfl rfl rfl (by first | rfl | assumption | simp [Lay.len, Lay.lens]) ts3 rfl rfl ?_ | refine AL_store rfl (nf rfl) rfl rfl rfl hes rfl rfl (by first | rfl | assumption | simp [Lay.len, Lay.lens]) ts3 rfl rfl ?_
      refine AL_nil ?_
      simp only [decide_eq_true_eq, decide_eq_false_iff_not] at hc1
      refine joinS [some 0, some 1, some 2] rfl rfl (BxTo_some rfl rfl rfl rfl (.cons (.rd .d) .nil) (BxTo_some rfl rfl rfl rfl (.cons (.rd .d) .nil) (BxTo_some rfl rfl rfl rfl (.cons (.agg (.cons (.rd .d) (.cons (.rd .d) (.cons (Vw_int (by subst hm2; first | rw [if_pos hc1] | rw [if_neg hc1])) (.cons (.rd .d) .nil))))) .nil) BxTo_nil))) (SlTo_cons (by first | exact .rd .d | exact .ptr rfl | exact .ref rfl | exact .any | exact Vw_int (by omega)) (SlTo_cons (by first | exact .rd .d | exact .ptr rfl | exact .ref rfl | exact .any | exact Vw_int (by omega)) (SlTo_cons (by first | exact .rd .d | exact .ptr rfl | exact .ref rfl | exact .any | exact Vw_int (by omega)) (SlTo_cons (by first | exact .rd .d | exact .ptr rfl | exact .ref rfl | exact .any | exact Vw_int (by omega)) SlTo_nil))))
    · skip
      refine AC_skip ?_
      simp only [decide_eq_true_eq, decide_eq_false_iff_not] at hc1
      refine joinS [some 0, some 1, some 2] rfl rfl (BxTo_some rfl rfl rfl rfl (.cons (.rd .d) .nil) (BxTo_some rfl rfl rfl rfl (.cons (.rd .d) .nil) (BxTo_some rfl rfl rfl rfl (.cons (.agg (.cons (.rd .d) (.cons (.rd .d) (.cons (Vw_int (by subst hm2; first | rw [if_pos hc1] | rw [if_neg hc1])) (.cons (.rd .d) .nil))))) .nil) BxTo_nil))) (SlTo_cons (by first | exact .rd .d | exact .ptr rfl | exact .ref rfl | exact .any | exact Vw_int (by omega)) (SlTo_cons (by first | exact .rd .d | exact .ptr rfl | exact .ref rfl | exact .any | exact Vw_int (by omega)) (SlTo_cons (by first | exact .rd .d | exact .ptr rfl | exact .ref rfl | exact .any | exact Vw_int (by omega)) (SlTo_cons (by first | exact .rd .d | exact .ptr rfl | exact .ref rfl | exact .any | exact Vw_int (by omega)) SlTo_nil))))
  · skip
    rintro f L ⟨rfl, rfl⟩
    refine AC_seq fun K6 hK6 => ?_
    refine AC_seq fun K7 hK7 => ?_
    refine AC_region ?_
    first | refine AL_ev (Ev_fa_ptr rfl fa35_3 rfl rfl) rfl ?_ | refine AL_ev (Ev_fa_rp rfl fa35_3 rfl rfl) rfl ?_
    first | refine AL_ev (Ev_load_ptr rfl rfl rfl rfl rfl rfl ts24 ta24 rfl (fun _ => rfl)) rfl ?_ | refine AL_ev (Ev_load_rp rfl rfl rfl ts24 ta24 rfl (fun _ => rfl)) rfl ?_
    first | refine AL_lim (x := (Operand.tmp 19)) rfl fun hl1 => ?_ | refine AL_limB (x := (Operand.tmp 19)) rfl rfl (by first | rfl | (simp; done) | (simp; omega)) fun hl1 => ?_ | have hl1 := True.intro
    try simp only [injs_length, ints_length, strs_length, injCs_length, List.length_map] at hl1
    first | refine AL_ev (Ev_len_injs te24 rfl) rfl ?_ | refine AL_ev (Ev_len_sl te24 rfl) rfl ?_ | refine AL_ev (Ev_len_ref te24 rfl) rfl ?_ | refine AL_ev (Ev_len_nil te24 rfl) rfl ?_ | refine AL_ev (Ev_len_c te24 rfl) rfl ?_
    refine AL_ev (Ev_move) rfl ?_
    refine AL_nil ?_
    refine hK7 _ _ _ ?_
    refine AC_block ?_
    refine AC_loopS [1, 2, 4, 5, 19, 20] (Nat) (fun j => [(21, i64 j)]) (fun j => [some ⟨35, LT, [.d (inj (.mk k s m ks))]⟩, some ⟨35, LT, [.d zT]⟩, some ⟨35, LT, [.agg [.one, .one, .one, .one] [i64 k, st s, i64 m2, .ref LT 3 0 j]]⟩, some ⟨35, LT, (injs (rnL g (ks.take j))).map V.d⟩]) (fun j => ks.length - j) (fun j => j ≤ ks.length) (0) ?_ ?_ ?_
    · skip
      refine Wk.then (Wk_nil_box 2 0 [3] 35 LT rfl rfl rfl rfl 3 rfl rfl ?_)
      exact enterS [some 0, some 1, some 2, some 3] rfl rfl (BxTo_some rfl rfl rfl rfl (.cons (.rd .d) .nil) (BxTo_some rfl rfl rfl rfl (.cons (.rd .d) .nil) (BxTo_some rfl rfl rfl rfl (.cons (.agg (.cons (.rd .d) (.cons (.rd .d) (.cons (.rd .d) (.cons (.ref rfl) .nil))))) .nil) (BxTo_some rfl rfl rfl rfl .nil BxTo_nil)))) (SlTo_cons (by first | exact .rd .d | exact .ptr rfl | exact .ref rfl | exact .any | exact Vw_int (by omega)) (SlTo_cons (by first | exact .rd .d | exact .ptr rfl | exact .ref rfl | exact .any | exact Vw_int (by omega)) (SlTo_cons (by first | exact .rd .d | exact .ptr rfl | exact .ref rfl | exact .any | exact Vw_int (by omega)) (SlTo_cons (by first | exact .rd .d | exact .ptr rfl | exact .ref rfl | exact .any | exact Vw_int (by omega)) (SlTo_cons (by first | exact .rd .d | exact .ptr rfl | exact .ref rfl | exact .any | exact Vw_int (by omega)) (SlTo_cons (by first | exact .rd .d | exact .ptr rfl | exact .ref rfl | exact .any | exact Vw_int (by omega)) (SlTo_cons (by first | exact .rd .d | exact .ptr rfl | exact .ref rfl | exact .any | exact Vw_int (by omega)) SlTo_nil)))))))
    · skip
      exact Nat.zero_le _
    intro j hj
    refine AC_seq fun K8 hK8 => ?_
    refine AC_region ?_
    refine AL_ev (Ev_lss rfl rfl) rfl ?_
    refine AL_nil ?_
    refine hK8 _ _ _ ?_
    refine AC_seq fun K9 hK9 => ?_
    refine AC_cond rfl (fun hc2 => ?_) (fun hc2 => ?_)
    · skip
      have hlt : j < ks.length := by simpa [injs_length] using hc2
      obtain ⟨u, hu⟩ : ∃ u, ks[j]? = some u := ⟨_, List.getElem?_eq_getElem hlt⟩
      have hu2 := injs_get hu
      refine AC_skip ?_
      refine hK9 _ _ _ ?_
      refine AC_seq fun K10 hK10 => ?_
      refine AC_block ?_
      refine AC_seq fun K11 hK11 => ?_
      refine AC_region ?_
      first | refine AL_ev (Ev_ix_sl rfl rfl te24 ts35 (by omega) (by assumption)) rfl ?_ | refine AL_ev (Ev_ix_ref rfl rfl te24 ts35 (by omega) (by first | omega | (simp; omega))) rfl ?_
      first | refine AL_ev (Ev_load_ptr rfl rfl rfl rfl rfl rfl ts35 ta35 (by first | rfl | assumption | simp) (by intro h; cases h)) rfl ?_ | refine AL_ev (Ev_load_rp rfl rfl rfl ts35 ta35 (by first | rfl | assumption | simp) (by intro h; cases h)) rfl ?_
      refine AL_alloc zo35 _ rfl rfl ?_
      first | refine AL_store rfl (nf rfl) rfl rfl rfl rfl rfl rfl (by first | rfl | assumption | simp [Lay.len, Lay.lens]) ts35 rfl rfl ?_ | refine AL_store rfl (nf rfl) rfl rfl rfl hes rfl rfl (by first | rfl | assumption | simp [Lay.len, Lay.lens]) ts35 rfl rfl ?_
      refine AL_nil ?_
      refine hK11 _ _ _ ?_
      refine AC_draw hT follows [0, 1, 2, 3, 4, 5, 6, 7, 8] (by kernel_rfl) ?_
      first | refine DT_ev rfl (EA_fa_ptr rfl fa35_3 rfl rfl) rfl ?_ | refine DT_ev rfl (EA_fa_rp rfl fa35_3 rfl rfl) rfl ?_
      first | refine DT_ev rfl (EA_load_ptr rfl rfl rfl rfl rfl rfl ts24 ta24 rfl (fun _ => rfl)) rfl ?_ | refine DT_ev rfl (EA_load_rp rfl rfl rfl ts24 ta24 rfl (fun _ => rfl)) rfl ?_
      first | refine DT_ev rfl (EA_load_ptr rfl rfl rfl rfl rfl rfl ts35 ta35 (by first | rfl | assumption | simp) (by intro h; cases h)) rfl ?_ | refine DT_ev rfl (EA_load_rp rfl rfl rfl ts35 ta35 (by first | rfl | assumption | simp) (by intro h; cases h)) rfl ?_
      refine DT_ev rfl (EA_move) rfl ?_
      refine DT_fcall0 rfl rfl cl71 (ih u (List.mem_of_getElem? hu)) rfl rfl ?_
      refine DT_bD (Lay.st [.one, .one, .one, .one]) rfl rfl te24 ts35 tz35 rfl rfl (by decide) (by decide) (by first | rfl | simp [lenDs, goodVs, goodV, V.known, Lay.len, Lay.lens]) rfl ?_
      first | refine DT_append_sl rfl rfl rfl rfl rfl te24 ts35 tz35 rfl tb35 (by decide) (by decide) rfl (by first | rfl | (simp; done) | (simp; omega)) (by simp only [lim]; first | omega | (simp; done) | (simp; omega)) _ rfl rfl ?_ | refine DT_append_nil rfl rfl rfl rfl rfl te24 ts35 tz35 rfl tb35 (by decide) (by decide) rfl (by first | rfl | (simp; done) | (simp; omega)) (by simp only [lim]; first | omega | (simp; done) | (simp; omega)) _ rfl rfl ?_
      first | refine DT_ev rfl (EA_fa_ptr rfl fa35_3 rfl rfl) rfl ?_ | refine DT_ev rfl (EA_fa_rp rfl fa35_3 rfl rfl) rfl ?_
      first | refine DT_store rfl rfl (nf rfl) rfl rfl rfl rfl rfl rfl (by first | rfl | assumption | simp [Lay.len, Lay.lens]) ts24 rfl rfl ?_ | refine DT_store rfl rfl (nf rfl) rfl rfl rfl hes rfl rfl (by first | rfl | assumption | simp [Lay.len, Lay.lens]) ts24 rfl rfl ?_
      refine DTi.nil ?_
      refine hK10 _ _ _ ?_
      refine AC_region ?_
      first | refine AL_ev (Ev_add rfl rfl _ (wrap_id (by first | omega | (simp; omega)) (by first | omega | (simp; omega)))) rfl ?_ | refine AL_ev (Ev_add rfl rfl _ rfl) rfl ?_
      refine AL_ev (Ev_move) rfl ?_
      refine AL_nil ?_
      refine closeS (j + 1) [some 0, some 1, some 2, some 5] rfl rfl (by show ks.length - (j + 1) < ks.length - j; omega) hlt (BxTo_some rfl rfl rfl rfl (.cons (.rd .d) .nil) (BxTo_some rfl rfl rfl rfl (.cons (.rd .d) .nil) (BxTo_some rfl rfl rfl rfl (.cons (.agg (.cons (.rd .d) (.cons (.rd .d) (.cons (.rd .d) (.cons (.ref rfl) .nil))))) .nil) (BxTo_some rfl rfl rfl rfl (VwL_app (by rw [rnL_map, rnL_map]; exact injs_take_map (rn g) hu)) BxTo_nil)))) (SlTo_cons (Vw_int (by omega)) (SlTo_cons (by first | exact .rd .d | exact .ptr rfl | exact .ref rfl | exact .any | exact Vw_int (by omega)) (SlTo_cons (by first | exact .rd .d | exact .ptr rfl | exact .ref rfl | exact .any | exact Vw_int (by omega)) (SlTo_cons (by first | exact .rd .d | exact .ptr rfl | exact .ref rfl | exact .any | exact Vw_int (by omega)) (SlTo_cons (by first | exact .rd .d | exact .ptr rfl | exact .ref rfl | exact .any | exact Vw_int (by omega)) (SlTo_cons (by first | exact .rd .d | exact .ptr rfl | exact .ref rfl | exact .any | exact Vw_int (by omega)) (SlTo_cons (by first | exact .rd .d | exact .ptr rfl | exact .ref rfl | exact .any | exact Vw_int (by omega)) SlTo_nil)))))))
    · skip
      refine AC_exit ?_
      refine hK6 _ _ _ ?_
      refine AC_seq fun K12 hK12 => ?_
      refine AC_region ?_
      first | refine AL_ev (Ev_load_ptr rfl rfl rfl rfl rfl rfl ts35 ta35 (by first | rfl | assumption | simp) (by intro h; cases h)) rfl ?_ | refine AL_ev (Ev_load_rp rfl rfl rfl ts35 ta35 (by first | rfl | assumption | simp) (by intro h; cases h)) rfl ?_
      first | refine AL_store rfl (nf rfl) rfl rfl rfl rfl rfl rfl (by first | rfl | assumption | simp [Lay.len, Lay.lens]) ts35 rfl rfl ?_ | refine AL_store rfl (nf rfl) rfl rfl rfl hes rfl rfl (by first | rfl | assumption | simp [Lay.len, Lay.lens]) ts35 rfl rfl ?_
      refine AL_nil ?_
      refine hK12 _ _ _ ?_
      refine AC_ret ?_
      have hj2 : j = ks.length := by
        have : ¬ j < ks.length := by simpa [injs_length] using hc2
        omega
      subst hj2
      subst hm2
      refine ret_ok hdm (.cell rfl rfl rfl rfl rfl rfl ts35 ta35 rfl (by intro h; cases h) .nil) (.cons (.agg (.cons .d (.cons .d (.cons .d (.cons (.ref trivial rfl rfl (by simp) (ReadsL_d _)) .nil))))) .nil) ?_
      rw [List.take_length]
      rfl

set_option maxHeartbeats 1000000 in
set_option maxRecDepth 4000 in
theorem c_toTermS (ks : List T) (ih : ∀ u ∈ ks, OCall Try.prog 39 [inj u] (inj u)) : OCall Try.prog 9 [.sl LT (injs ks)] (.sl LT (injs ks)) := by
  refine OCall_of (n := 23) Try.func9 rfl rfl (Nat.le_of_ble_eq_true rfl) fun C0 hdm hT0 => ?_
  have hX0 := CExt.refl C0
  have hT := hT0
  refine AC_seq fun K1 hK1 => ?_
  refine AC_region ?_
  refine AL_ev (Ev_assign) rfl ?_
  refine AL_nil ?_
  refine hK1 _ _ _ ?_
  refine AC_seq fun K2 hK2 => ?_
  refine AC_region ?_
  refine AL_ev (Ev_move) rfl ?_
  first | refine AL_lim (x := (Operand.tmp 5)) rfl fun hl1 => ?_ | refine AL_limB (x := (Operand.tmp 5)) rfl rfl (by first | rfl | (simp; done) | (simp; omega)) fun hl1 => ?_ | have hl1 := True.intro
  try simp only [injs_length, ints_length, strs_length, injCs_length, List.length_map] at hl1
  first | refine AL_ev (Ev_len_injs te22 rfl) rfl ?_ | refine AL_ev (Ev_len_sl te22 rfl) rfl ?_ | refine AL_ev (Ev_len_ref te22 rfl) rfl ?_ | refine AL_ev (Ev_len_nil te22 rfl) rfl ?_ | refine AL_ev (Ev_len_c te22 rfl) rfl ?_
  refine AL_makeSlice (Lay.st [.one, .one, .one, .one]) te24 ts35 zo35 tb35 rfl (by simp only [lim]; first | omega | (simp; done) | (simp; omega)) (by first | omega | (simp; omega)) (by decide) _ rfl rfl ?_
  refine AL_ev (Ev_assign) rfl ?_
  refine AL_nil ?_
  refine hK2 _ _ _ ?_
  refine AC_seq fun K3 hK3 => ?_
  refine AC_seq fun K4 hK4 => ?_
  refine AC_region ?_
  refine AL_ev (Ev_assign) rfl ?_
  refine AL_nil ?_
  refine hK4 _ _ _ ?_
  refine AC_block ?_
  refine AC_loopX (List (List Value) × List Nat) (fun st => [(4, i64 st.1.length)]) (fun st => [some ⟨35, LT, st.1.map (rawV LT) ++ List.replicate (ks.length - st.1.length) (V.d zT)⟩]) (fun st => ks.length - st.1.length) (fun C st => st.1.length ≤ ks.length ∧ CExt C0 C ∧ HasL C0.w0.heap.size C LT st.1 (injs (ks.take st.1.length)) st.2) [0, 3] ?_ ?_
  · skip
    exact enterX ([], []) [some 0] rfl rfl ⟨Nat.zero_le _, hX0, HasL.nil⟩ (BxTo_some rfl rfl rfl rfl (VwL_fill (css' := []) (by simp [zT])) BxTo_nil) (SlTo_cons (by first | exact .rd .d | exact .ptr rfl | exact .ref rfl | exact .any | exact Vw_int (by omega)) (SlTo_cons (by first | exact .rd .d | exact .ptr rfl | exact .ref rfl | exact .any | exact Vw_int (by omega)) (SlTo_cons (by first | exact .rd .d | exact .ptr rfl | exact .ref rfl | exact .any | exact Vw_int (by omega)) SlTo_nil)))
  rintro CL st ⟨hj, hX, hL⟩
  have hT := hT0.ext hX
  refine AC_seq fun K5 hK5 => ?_
  refine AC_seq fun K6 hK6 => ?_
  refine AC_region ?_
  refine AL_ev (Ev_move) rfl ?_
  refine AL_ev (Ev_move) rfl ?_
  first | refine AL_lim (x := (Operand.tmp 9)) rfl fun hl2 => ?_ | refine AL_limB (x := (Operand.tmp 9)) rfl rfl (by first | rfl | (simp; done) | (simp; omega)) fun hl2 => ?_ | have hl2 := True.intro
  try simp only [injs_length, ints_length, strs_length, injCs_length, List.length_map] at hl2
  first | refine AL_ev (Ev_len_injs te22 rfl) rfl ?_ | refine AL_ev (Ev_len_sl te22 rfl) rfl ?_ | refine AL_ev (Ev_len_ref te22 rfl) rfl ?_ | refine AL_ev (Ev_len_nil te22 rfl) rfl ?_ | refine AL_ev (Ev_len_c te22 rfl) rfl ?_
  refine AL_ev (Ev_lss rfl rfl) rfl ?_
  refine AL_nil ?_
  refine hK6 _ _ _ ?_
  refine AC_cond rfl (fun hc1 => ?_) (fun hc1 => ?_)
  · skip
    have hlt : st.1.length < ks.length := by simpa [injs_length] using hc1
    obtain ⟨u, hu⟩ : ∃ u, ks[st.1.length]? = some u := ⟨_, List.getElem?_eq_getElem hlt⟩
    have hu2 := injs_get hu
    refine AC_skip ?_
    refine hK5 _ _ _ ?_
    refine AC_seq fun K7 hK7 => ?_
    refine AC_block ?_
    refine AC_region ?_
    refine AL_ev (Ev_move) rfl ?_
    refine AL_ev (Ev_move) rfl ?_
    refine AL_ev (Ev_move) rfl ?_
    refine AL_ev (Ev_move) rfl ?_
    first | refine AL_ev (Ev_ix_sl rfl rfl te22 ts51 (by omega) (by assumption)) rfl ?_ | refine AL_ev (Ev_ix_ref rfl rfl te22 ts51 (by omega) (by first | omega | (simp; omega))) rfl ?_
    first | refine AL_ev (Ev_load_ptr rfl rfl rfl rfl rfl rfl ts51 ta51 (by first | rfl | assumption | simp) (by intro h; cases h)) rfl ?_ | refine AL_ev (Ev_load_rp rfl rfl rfl ts51 ta51 (by first | rfl | assumption | simp) (by intro h; cases h)) rfl ?_
    refine AL_ocall0 hT LT rfl cl39 (ih u (List.mem_of_getElem? hu)) rfl (inj_lenL _) (inj_agL _) rfl fun C1 cs1 K1 hg1 => ?_
    have hX1 := hX.trans hg1.ext
    have hT := hT.ext hg1.ext
    have hes := fill_get (l := LT) (z := zT) st.1 ks.length hlt
    first | refine AL_ev (Ev_ix_sl rfl rfl te24 ts35 (by omega) (by assumption)) rfl ?_ | refine AL_ev (Ev_ix_ref rfl rfl te24 ts35 (by omega) (by first | omega | (simp; omega))) rfl ?_
    first | refine AL_store rfl (nf rfl) rfl rfl rfl rfl rfl rfl (by first | rfl | assumption | simp [Lay.len, Lay.lens]) ts35 rfl rfl ?_ | refine AL_store rfl (nf rfl) rfl rfl rfl hes rfl rfl (by first | rfl | assumption | simp [Lay.len, Lay.lens]) ts35 rfl rfl ?_
    refine AL_nil ?_
    refine hK7 _ _ _ ?_
    refine AC_region ?_
    refine AL_ev (Ev_move) rfl ?_
    first | refine AL_ev (Ev_add rfl rfl _ (wrap_id (by first | omega | (simp; omega)) (by first | omega | (simp; omega)))) rfl ?_ | refine AL_ev (Ev_add rfl rfl _ rfl) rfl ?_
    refine AL_ev (Ev_assign) rfl ?_
    refine AL_nil ?_
    have hst2 : (st.1 ++ [cs1]).length = st.1.length + 1 := by simp
    refine closeX (st.1 ++ [cs1], st.2 ++ K1) [some 0] rfl rfl (by show ks.length - (st.1 ++ [cs1]).length < ks.length - st.1.length; omega) ⟨by show (st.1 ++ [cs1]).length ≤ _; omega, hX1, ?_⟩ (BxTo_some rfl rfl rfl rfl (VwL_fill (fill_set st.1 ks.length hlt cs1)) BxTo_nil) (SlTo_cons (Vw_int (by show _ = (((st.1 ++ [cs1]).length : Nat) : Int); rw [hst2]; omega)) (SlTo_cons (by first | exact .rd .d | exact .ptr rfl | exact .ref rfl | exact .any | exact Vw_int (by omega)) (SlTo_cons (by first | exact .rd .d | exact .ptr rfl | exact .ref rfl | exact .any | exact Vw_int (by omega)) SlTo_nil)))
    show HasL _ _ _ (st.1 ++ [cs1]) (injs (ks.take (st.1 ++ [cs1]).length)) _
    rw [hst2, injs_take_get hu]
    exact hL.snoc hg1.ext hg1.has hX.pres.size (inj_lenL u)
  · skip
    refine AC_exit ?_
    refine hK3 _ _ _ ?_
    refine AC_seq fun K8 hK8 => ?_
    refine AC_region ?_
    refine AL_ev (Ev_move) rfl ?_
    refine AL_ev (Ev_assign) rfl ?_
    refine AL_nil ?_
    refine hK8 _ _ _ ?_
    refine AC_ret ?_
    have hj2 : st.1.length = ks.length := by
      have : ¬ st.1.length < ks.length := by simpa [injs_length] using hc1
      omega
    rw [← hj2, fill_done]
    rw [hj2, List.take_length] at hL
    refine reto_ok hX hdm (.tmp rfl rfl .nil) (.ref rfl rfl (by first | omega | (simp; done) | (simp; omega)) (OwVs_raws hL (by first | omega | (simp; done) | (simp; omega))) (by simp)) rfl rfl

set_option maxHeartbeats 1000000 in
set_option maxRecDepth 4000 in
theorem c_toTerm (t : T) : OCall Try.prog 39 [inj t] (inj t) := by
  induction t using T.ind with | h k s m ks ih => ?_
  refine OCall_of (n := 18) Try.func39 rfl rfl (Nat.le_of_ble_eq_true rfl) fun C0 hdm hT0 => ?_
  have hX0 := CExt.refl C0
  have hT := hT0
  refine AC_seq fun K1 hK1 => ?_
  refine AC_region ?_
  refine AL_box (Lay.st [.one, .one, .one, .one]) (nf rfl) rfl (by first | rfl | simp [Lay.len, Lay.lens]) _ rfl rfl ?_
  refine AL_alloc zo35 _ rfl rfl ?_
  refine AL_nil ?_
  refine hK1 _ _ _ ?_
  refine AC_seq fun K2 hK2 => ?_
  refine AC_region ?_
  refine AL_alloc zo35 _ rfl rfl ?_
  refine AL_nil ?_
  refine hK2 _ _ _ ?_
  refine AC_seq fun K3 hK3 => ?_
  refine AC_region ?_
  first | refine AL_ev (Ev_fa_ptr rfl fa51_0 rfl rfl) rfl ?_ | refine AL_ev (Ev_fa_rp rfl fa51_0 rfl rfl) rfl ?_
  first | refine AL_ev (Ev_load_ptr rfl rfl rfl rfl rfl rfl ts3 ta3 rfl (fun _ => rfl)) rfl ?_ | refine AL_ev (Ev_load_rp rfl rfl rfl ts3 ta3 rfl (fun _ => rfl)) rfl ?_
  first | refine AL_ev (Ev_fa_ptr rfl fa35_0 rfl rfl) rfl ?_ | refine AL_ev (Ev_fa_rp rfl fa35_0 rfl rfl) rfl ?_
  first | refine AL_store rfl (nf rfl) rfl rfl rfl rfl rfl rfl (by first | rfl | assumption | simp [Lay.len, Lay.lens]) ts3 rfl rfl ?_ | refine AL_store rfl (nf rfl) rfl rfl rfl hes rfl rfl (by first | rfl | assumption | simp [Lay.len, Lay.lens]) ts3 rfl rfl ?_
  refine AL_nil ?_
  refine hK3 _ _ _ ?_
  refine AC_seq fun K4 hK4 => ?_
  refine AC_region ?_
  first | refine AL_ev (Ev_fa_ptr rfl fa51_1 rfl rfl) rfl ?_ | refine AL_ev (Ev_fa_rp rfl fa51_1 rfl rfl) rfl ?_
  first | refine AL_ev (Ev_load_ptr rfl rfl rfl rfl rfl rfl ts9 ta9 rfl (fun _ => rfl)) rfl ?_ | refine AL_ev (Ev_load_rp rfl rfl rfl ts9 ta9 rfl (fun _ => rfl)) rfl ?_
  first | refine AL_ev (Ev_fa_ptr rfl fa35_1 rfl rfl) rfl ?_ | refine AL_ev (Ev_fa_rp rfl fa35_1 rfl rfl) rfl ?_
  first | refine AL_store rfl (nf rfl) rfl rfl rfl rfl rfl rfl (by first | rfl | assumption | simp [Lay.len, Lay.lens]) ts9 rfl rfl ?_ | refine AL_store rfl (nf rfl) rfl rfl rfl hes rfl rfl (by first | rfl | assumption | simp [Lay.len, Lay.lens]) ts9 rfl rfl ?_
  refine AL_nil ?_
  refine hK4 _ _ _ ?_
  refine AC_seq fun K5 hK5 => ?_
  refine AC_region ?_
  first | refine AL_ev (Ev_fa_ptr rfl fa51_2 rfl rfl) rfl ?_ | refine AL_ev (Ev_fa_rp rfl fa51_2 rfl rfl) rfl ?_
  first | refine AL_ev (Ev_load_ptr rfl rfl rfl rfl rfl rfl ts3 ta3 rfl (fun _ => rfl)) rfl ?_ | refine AL_ev (Ev_load_rp rfl rfl rfl ts3 ta3 rfl (fun _ => rfl)) rfl ?_
  first | refine AL_ev (Ev_fa_ptr rfl fa35_2 rfl rfl) rfl ?_ | refine AL_ev (Ev_fa_rp rfl fa35_2 rfl rfl) rfl ?_
  first | refine AL_store rfl (nf rfl) rfl rfl rfl rfl rfl rfl (by first | rfl | assumption | simp [Lay.len, Lay.lens]) ts3 rfl rfl ?_ | refine AL_store rfl (nf rfl) rfl rfl rfl hes rfl rfl (by first | rfl | assumption | simp [Lay.len, Lay.lens]) ts3 rfl rfl ?_
  refine AL_nil ?_
  refine hK5 _ _ _ ?_
  refine AC_seq fun K6 hK6 => ?_
  refine AC_region ?_
  first | refine AL_ev (Ev_fa_ptr rfl fa51_3 rfl rfl) rfl ?_ | refine AL_ev (Ev_fa_rp rfl fa51_3 rfl rfl) rfl ?_
  first | refine AL_ev (Ev_load_ptr rfl rfl rfl rfl rfl rfl ts22 ta22 rfl (fun _ => rfl)) rfl ?_ | refine AL_ev (Ev_load_rp rfl rfl rfl ts22 ta22 rfl (fun _ => rfl)) rfl ?_
  refine AL_ocall0 hT .one rfl cl9 (c_toTermS ks ih) rfl rfl rfl rfl fun C1 cs1 K1 hg1 => ?_
  have hX1 := hX0.trans hg1.ext
  have hT := hT.ext hg1.ext
  obtain ⟨A1, rfl⟩ := one_cell_of hg1.has
  first | refine AL_ev (Ev_fa_ptr rfl fa35_3 rfl rfl) rfl ?_ | refine AL_ev (Ev_fa_rp rfl fa35_3 rfl rfl) rfl ?_
  first | refine AL_store rfl (nf rfl) rfl rfl rfl rfl rfl rfl (by first | rfl | assumption | simp [Lay.len, Lay.lens]) ts24 rfl rfl ?_ | refine AL_store rfl (nf rfl) rfl rfl rfl hes rfl rfl (by first | rfl | assumption | simp [Lay.len, Lay.lens]) ts24 rfl rfl ?_
  refine AL_nil ?_
  refine hK6 _ _ _ ?_
  refine AC_seq fun K7 hK7 => ?_
  refine AC_region ?_
  first | refine AL_ev (Ev_load_ptr rfl rfl rfl rfl rfl rfl ts35 ta35 (by first | rfl | assumption | simp) (by intro h; cases h)) rfl ?_ | refine AL_ev (Ev_load_rp rfl rfl rfl ts35 ta35 (by first | rfl | assumption | simp) (by intro h; cases h)) rfl ?_
  first | refine AL_store rfl (nf rfl) rfl rfl rfl rfl rfl rfl (by first | rfl | assumption | simp [Lay.len, Lay.lens]) ts35 rfl rfl ?_ | refine AL_store rfl (nf rfl) rfl rfl rfl hes rfl rfl (by first | rfl | assumption | simp [Lay.len, Lay.lens]) ts35 rfl rfl ?_
  refine AL_nil ?_
  refine hK7 _ _ _ ?_
  refine AC_ret ?_
  exact reto_ok hX1 hdm (.cell rfl rfl rfl rfl rfl rfl ts35 ta35 rfl (by intro h; cases h) .nil) (ow_T (hg1.has.le hX0.pres.size)) rfl rfl

set_option maxHeartbeats 1000000 in
set_option maxRecDepth 4000 in
theorem c_id (m : Int) : PCall Try.prog 72 [.c (.int .i64 m)] (· = [.c (.int .i64 m)]) := by
  refine PCall_of (n := 4) Try.func72 rfl rfl (Nat.le_of_ble_eq_true rfl) fun C hdm hT0 => ?_
  have hT := hT0
  refine AC_seq fun K1 hK1 => ?_
  refine AC_region ?_
  refine AL_ev (Ev_assign) rfl ?_
  refine AL_nil ?_
  refine hK1 _ _ _ ?_
  refine AC_seq fun K2 hK2 => ?_
  refine AC_region ?_
  refine AL_ev (Ev_move) rfl ?_
  refine AL_ev (Ev_assign) rfl ?_
  refine AL_nil ?_
  refine hK2 _ _ _ ?_
  refine AC_ret ?_
  exact ret_ok hdm (.tmp rfl rfl .nil) (.cons .d .nil) rfl

set_option maxHeartbeats 1000000 in
set_option maxRecDepth 4000 in
theorem c_copyTerm (t : T) : PCall Try.prog 41 [inj t] (· = [inj t]) := by
  refine PCall_of (n := 5) Try.func41 rfl rfl (Nat.le_of_ble_eq_true rfl) fun C hdm hT0 => ?_
  have hT := hT0
  refine AC_seq fun K1 hK1 => ?_
  refine AC_region ?_
  refine AL_box (Lay.st [.one, .one, .one, .one]) (nf rfl) rfl (by first | rfl | simp [Lay.len, Lay.lens]) _ rfl rfl ?_
  refine AL_alloc zo35 _ rfl rfl ?_
  refine AL_nil ?_
  refine hK1 _ _ _ ?_
  refine AC_seq fun K2 hK2 => ?_
  refine AC_region ?_
  first | refine AL_ev (Ev_load_ptr rfl rfl rfl rfl rfl rfl ts35 ta35 (by first | rfl | assumption | simp) (by intro h; cases h)) rfl ?_ | refine AL_ev (Ev_load_rp rfl rfl rfl ts35 ta35 (by first | rfl | assumption | simp) (by intro h; cases h)) rfl ?_
  refine AL_fcall0 hT rfl cl71 (c_renamed id 72 [] cl72 rfl (fun m => c_id m) t) rfl rfl ?_
  first | refine AL_store rfl (nf rfl) rfl rfl rfl rfl rfl rfl (by first | rfl | assumption | simp [Lay.len, Lay.lens]) ts35 rfl rfl ?_ | refine AL_store rfl (nf rfl) rfl rfl rfl hes rfl rfl (by first | rfl | assumption | simp [Lay.len, Lay.lens]) ts35 rfl rfl ?_
  refine AL_nil ?_
  refine hK2 _ _ _ ?_
  refine AC_ret ?_
  exact ret_ok hdm (.cell rfl rfl rfl rfl rfl rfl ts35 ta35 (by simp) (by intro h; cases h) .nil) (.cons .d .nil) (by rw [rn_id])

set_option maxHeartbeats 1000000 in
set_option maxRecDepth 4000 in
theorem c_l34Terms (ks : List T) (ih : ∀ u ∈ ks, PCall Try.prog 65 [inj u] (· = [inj u])) : PCall Try.prog 38 [.sl LT (injs ks)] (· = [.sl LT (injs ks)]) := by
  refine PCall_of (n := 21) Try.func38 rfl rfl (Nat.le_of_ble_eq_true rfl) fun C hdm hT0 => ?_
  have hT := hT0
  refine AC_seq fun K1 hK1 => ?_
  refine AC_region ?_
  refine AL_ev (Ev_assign) rfl ?_
  refine AL_nil ?_
  refine hK1 _ _ _ ?_
  refine AC_seq fun K2 hK2 => ?_
  refine AC_region ?_
  refine AL_bV (Lay.st [.one, .one, .one, .one]) rfl te24 ts35 tz35 rfl rfl (by decide) (by decide) (by first | rfl | simp [lenDs, goodVs, goodV, V.known, Lay.len, Lay.lens]) _ rfl rfl ?_
  refine AL_ev (Ev_assign) rfl ?_
  refine AL_nil ?_
  refine hK2 _ _ _ ?_
  refine AC_seq fun K3 hK3 => ?_
  refine AC_seq fun K4 hK4 => ?_
  refine AC_region ?_
  refine AL_ev (Ev_assign) rfl ?_
  refine AL_nil ?_
  refine hK4 _ _ _ ?_
  refine AC_block ?_
  refine AC_loopS [0] (Nat) (fun j => [(3, .ref LT 0 0 j), (4, i64 j)]) (fun j => [some ⟨35, LT, (injs (ks.take j)).map V.d⟩]) (fun j => ks.length - j) (fun j => j ≤ ks.length) (0) ?_ ?_ ?_
  · skip
    exact enterS [some 0] rfl rfl (BxTo_some rfl rfl rfl rfl .nil BxTo_nil) (SlTo_cons (by first | exact .rd .d | exact .ptr rfl | exact .ref rfl | exact .any | exact Vw_int (by omega)) (SlTo_cons (by first | exact .rd .d | exact .ptr rfl | exact .ref rfl | exact .any | exact Vw_int (by omega)) (SlTo_cons (by first | exact .rd .d | exact .ptr rfl | exact .ref rfl | exact .any | exact Vw_int (by omega)) SlTo_nil)))
  · skip
    exact Nat.zero_le _
  intro j hj
  refine AC_seq fun K5 hK5 => ?_
  refine AC_seq fun K6 hK6 => ?_
  refine AC_region ?_
  refine AL_ev (Ev_move) rfl ?_
  refine AL_ev (Ev_move) rfl ?_
  first | refine AL_lim (x := (Operand.tmp 7)) rfl fun hl1 => ?_ | refine AL_limB (x := (Operand.tmp 7)) rfl rfl (by first | rfl | (simp; done) | (simp; omega)) fun hl1 => ?_ | have hl1 := True.intro
  try simp only [injs_length, ints_length, strs_length, injCs_length, List.length_map] at hl1
  first | refine AL_ev (Ev_len_injs te24 rfl) rfl ?_ | refine AL_ev (Ev_len_sl te24 rfl) rfl ?_ | refine AL_ev (Ev_len_ref te24 rfl) rfl ?_ | refine AL_ev (Ev_len_nil te24 rfl) rfl ?_ | refine AL_ev (Ev_len_c te24 rfl) rfl ?_
  refine AL_ev (Ev_lss rfl rfl) rfl ?_
  refine AL_nil ?_
  refine hK6 _ _ _ ?_
  refine AC_cond rfl (fun hc1 => ?_) (fun hc1 => ?_)
  · skip
    have hlt : j < ks.length := by simpa [injs_length] using hc1
    obtain ⟨u, hu⟩ : ∃ u, ks[j]? = some u := ⟨_, List.getElem?_eq_getElem hlt⟩
    have hu2 := injs_get hu
    refine AC_skip ?_
    refine hK5 _ _ _ ?_
    refine AC_seq fun K7 hK7 => ?_
    refine AC_block ?_
    refine AC_region ?_
    refine AL_ev (Ev_move) rfl ?_
    refine AL_ev (Ev_move) rfl ?_
    refine AL_ev (Ev_move) rfl ?_
    first | refine AL_ev (Ev_ix_sl rfl rfl te24 ts35 (by omega) (by assumption)) rfl ?_ | refine AL_ev (Ev_ix_ref rfl rfl te24 ts35 (by omega) (by first | omega | (simp; omega))) rfl ?_
    first | refine AL_ev (Ev_load_ptr rfl rfl rfl rfl rfl rfl ts35 ta35 (by first | rfl | assumption | simp) (by intro h; cases h)) rfl ?_ | refine AL_ev (Ev_load_rp rfl rfl rfl ts35 ta35 (by first | rfl | assumption | simp) (by intro h; cases h)) rfl ?_
    refine AL_fcall0 hT rfl cl65 (ih u (List.mem_of_getElem? hu)) rfl rfl ?_
    first | refine AL_bD (Lay.st [.one, .one, .one, .one]) rfl te24 ts35 tz35 rfl rfl (by decide) (by decide) (by first | rfl | simp [lenDs, goodVs, goodV, V.known, Lay.len, Lay.lens]) rfl ?_ | refine AL_bV (Lay.st [.one, .one, .one, .one]) rfl te24 ts35 tz35 rfl rfl (by decide) (by decide) (by first | rfl | simp [lenDs, goodVs, goodV, V.known, Lay.len, Lay.lens]) _ rfl rfl ?_
    first | refine AL_append rfl rfl rfl te24 ts35 tz35 rfl tb35 (by decide) (by decide) rfl (by first | rfl | (simp; done) | (simp; omega)) (Src_sl rfl) (by simp only [lim]; first | omega | (simp; done) | (simp; omega)) _ rfl rfl ?_ | refine AL_append rfl rfl rfl te24 ts35 tz35 rfl tb35 (by decide) (by decide) rfl (by first | rfl | (simp; done) | (simp; omega)) (Src_ref rfl rfl rfl (by first | rfl | (simp; done) | (simp; omega))) (by simp only [lim]; first | omega | (simp; done) | (simp; omega)) _ rfl rfl ?_ | refine AL_append rfl rfl rfl te24 ts35 tz35 rfl tb35 (by decide) (by decide) rfl (by first | rfl | (simp; done) | (simp; omega)) (Src_nil rfl) (by simp only [lim]; first | omega | (simp; done) | (simp; omega)) _ rfl rfl ?_
    refine AL_ev (Ev_assign) rfl ?_
    refine AL_nil ?_
    refine hK7 _ _ _ ?_
    refine AC_region ?_
    refine AL_ev (Ev_move) rfl ?_
    first | refine AL_ev (Ev_add rfl rfl _ (wrap_id (by first | omega | (simp; omega)) (by first | omega | (simp; omega)))) rfl ?_ | refine AL_ev (Ev_add rfl rfl _ rfl) rfl ?_
    refine AL_ev (Ev_assign) rfl ?_
    refine AL_nil ?_
    refine closeS (j + 1) [some 1] rfl rfl (by show ks.length - (j + 1) < ks.length - j; omega) hlt (BxTo_some rfl rfl rfl rfl (VwL_app (by rw [injs_take_get hu])) BxTo_nil) (SlTo_cons (Vw_refe rfl (by simp)) (SlTo_cons (Vw_int (by omega)) (SlTo_cons (by first | exact .rd .d | exact .ptr rfl | exact .ref rfl | exact .any | exact Vw_int (by omega)) SlTo_nil)))
  · skip
    refine AC_exit ?_
    refine hK3 _ _ _ ?_
    refine AC_seq fun K8 hK8 => ?_
    refine AC_region ?_
    refine AL_ev (Ev_move) rfl ?_
    refine AL_ev (Ev_assign) rfl ?_
    refine AL_nil ?_
    refine hK8 _ _ _ ?_
    refine AC_ret ?_
    have hj2 : j = ks.length := by
      have : ¬ j < ks.length := by simpa [injs_length] using hc1
      omega
    subst hj2
    refine ret_ok hdm (.tmp rfl rfl .nil) (.cons (.ref trivial rfl rfl (by simp) (ReadsL_d _)) .nil) (by rw [List.take_length])

set_option maxHeartbeats 1000000 in
set_option maxRecDepth 4000 in
theorem c_l34Term (t : T) : PCall Try.prog 65 [inj t] (· = [inj t]) := by
  induction t using T.ind with | h k s m ks ih => ?_
  refine PCall_of (n := 8) Try.func65 rfl rfl (Nat.le_of_ble_eq_true rfl) fun C hdm hT0 => ?_
  have hT := hT0
  refine AC_seq fun K1 hK1 => ?_
  refine AC_region ?_
  refine AL_box (Lay.st [.one, .one, .one, .one]) (nf rfl) rfl (by first | rfl | simp [Lay.len, Lay.lens]) _ rfl rfl ?_
  refine AL_alloc zo35 _ rfl rfl ?_
  refine AL_nil ?_
  refine hK1 _ _ _ ?_
  refine AC_seq fun K2 hK2 => ?_
  refine AC_region ?_
  first | refine AL_ev (Ev_fa_ptr rfl fa35_3 rfl rfl) rfl ?_ | refine AL_ev (Ev_fa_rp rfl fa35_3 rfl rfl) rfl ?_
  first | refine AL_ev (Ev_load_ptr rfl rfl rfl rfl rfl rfl ts24 ta24 rfl (fun _ => rfl)) rfl ?_ | refine AL_ev (Ev_load_rp rfl rfl rfl ts24 ta24 rfl (fun _ => rfl)) rfl ?_
  refine AL_fcall0 hT rfl cl38 (c_l34Terms ks ih) rfl rfl ?_
  first | refine AL_ev (Ev_fa_ptr rfl fa35_3 rfl rfl) rfl ?_ | refine AL_ev (Ev_fa_rp rfl fa35_3 rfl rfl) rfl ?_
  first | refine AL_store rfl (nf rfl) rfl rfl rfl rfl rfl rfl (by first | rfl | assumption | simp [Lay.len, Lay.lens]) ts24 rfl rfl ?_ | refine AL_store rfl (nf rfl) rfl rfl rfl hes rfl rfl (by first | rfl | assumption | simp [Lay.len, Lay.lens]) ts24 rfl rfl ?_
  refine AL_nil ?_
  refine hK2 _ _ _ ?_
  refine AC_seq fun K3 hK3 => ?_
  refine AC_region ?_
  first | refine AL_ev (Ev_load_ptr rfl rfl rfl rfl rfl rfl ts35 ta35 (by first | rfl | assumption | simp) (by intro h; cases h)) rfl ?_ | refine AL_ev (Ev_load_rp rfl rfl rfl ts35 ta35 (by first | rfl | assumption | simp) (by intro h; cases h)) rfl ?_
  first | refine AL_store rfl (nf rfl) rfl rfl rfl rfl rfl rfl (by first | rfl | assumption | simp [Lay.len, Lay.lens]) ts35 rfl rfl ?_ | refine AL_store rfl (nf rfl) rfl rfl rfl hes rfl rfl (by first | rfl | assumption | simp [Lay.len, Lay.lens]) ts35 rfl rfl ?_
  refine AL_nil ?_
  refine hK3 _ _ _ ?_
  refine AC_ret ?_
  exact ret_ok hdm (.cell rfl rfl rfl rfl rfl rfl ts35 ta35 rfl (by intro h; cases h) .nil) (.cons (by first | exact .d | exact .agg (.cons .d (.cons .d (.cons .d (.cons .d .nil))))) .nil) rfl

set_option maxHeartbeats 1000000 in
set_option maxRecDepth 4000 in
theorem c_eqTermS (ks : List T) (ih : ∀ u ∈ ks, PCall Try.prog 44 [inj u, inj u] (· = [.c (.bool true)])) : PCall Try.prog 11 [.sl LT (injs ks), .sl LT (injs ks)] (· = [.c (.bool true)]) := by
  refine PCall_of (n := 27) Try.func11 rfl rfl (Nat.le_of_ble_eq_true rfl) fun C hdm hT0 => ?_
  have hT := hT0
  refine AC_seq fun K1 hK1 => ?_
  refine AC_region ?_
  refine AL_ev (Ev_assign) rfl ?_
  refine AL_nil ?_
  refine hK1 _ _ _ ?_
  refine AC_seq fun K2 hK2 => ?_
  refine AC_seq fun K3 hK3 => ?_
  refine AC_region ?_
  refine AL_ev (Ev_move) rfl ?_
  first | refine AL_lim (x := (Operand.tmp 6)) rfl fun hl1 => ?_ | refine AL_limB (x := (Operand.tmp 6)) rfl rfl (by first | rfl | (simp; done) | (simp; omega)) fun hl1 => ?_ | have hl1 := True.intro
  try simp only [injs_length, ints_length, strs_length, injCs_length, List.length_map] at hl1
  first | refine AL_ev (Ev_len_injs te24 rfl) rfl ?_ | refine AL_ev (Ev_len_sl te24 rfl) rfl ?_ | refine AL_ev (Ev_len_ref te24 rfl) rfl ?_ | refine AL_ev (Ev_len_nil te24 rfl) rfl ?_ | refine AL_ev (Ev_len_c te24 rfl) rfl ?_
  refine AL_ev (Ev_move) rfl ?_
  first | refine AL_lim (x := (Operand.tmp 8)) rfl fun hl2 => ?_ | refine AL_limB (x := (Operand.tmp 8)) rfl rfl (by first | rfl | (simp; done) | (simp; omega)) fun hl2 => ?_ | have hl2 := True.intro
  try simp only [injs_length, ints_length, strs_length, injCs_length, List.length_map] at hl2
  first | refine AL_ev (Ev_len_injs te24 rfl) rfl ?_ | refine AL_ev (Ev_len_sl te24 rfl) rfl ?_ | refine AL_ev (Ev_len_ref te24 rfl) rfl ?_ | refine AL_ev (Ev_len_nil te24 rfl) rfl ?_ | refine AL_ev (Ev_len_c te24 rfl) rfl ?_
  refine AL_ev (Ev_neq rfl rfl) rfl ?_
  refine AL_nil ?_
  refine hK3 _ _ _ ?_
  refine AC_cond rfl (fun hc1 => ?_) (fun hc1 => ?_)
  · skip
    exact absurd hc1 (by simp)
  · skip
    refine AC_skip ?_
    refine hK2 _ _ _ ?_
    refine AC_seq fun K4 hK4 => ?_
    refine AC_seq fun K5 hK5 => ?_
    refine AC_region ?_
    refine AL_ev (Ev_assign) rfl ?_
    refine AL_nil ?_
    refine hK5 _ _ _ ?_
    refine AC_block ?_
    refine AC_loopS [0, 1] (Nat) (fun j => [(5, i64 j)]) (fun j => []) (fun j => ks.length - j) (fun j => j ≤ ks.length) (0) ?_ ?_ ?_
    · skip
      exact enterS [] rfl rfl BxTo_nil (SlTo_cons (by first | exact .rd .d | exact .ptr rfl | exact .ref rfl | exact .any | exact Vw_int (by omega)) (SlTo_cons (by first | exact .rd .d | exact .ptr rfl | exact .ref rfl | exact .any | exact Vw_int (by omega)) (SlTo_cons (by first | exact .rd .d | exact .ptr rfl | exact .ref rfl | exact .any | exact Vw_int (by omega)) SlTo_nil)))
    · skip
      exact Nat.zero_le _
    intro j hj
    refine AC_seq fun K6 hK6 => ?_
    refine AC_seq fun K7 hK7 => ?_
    refine AC_region ?_
    refine AL_ev (Ev_move) rfl ?_
    refine AL_ev (Ev_move) rfl ?_
    first | refine AL_lim (x := (Operand.tmp 12)) rfl fun hl3 => ?_ | refine AL_limB (x := (Operand.tmp 12)) rfl rfl (by first | rfl | (simp; done) | (simp; omega)) fun hl3 => ?_ | have hl3 := True.intro
    try simp only [injs_length, ints_length, strs_length, injCs_length, List.length_map] at hl3
    first | refine AL_ev (Ev_len_injs te24 rfl) rfl ?_ | refine AL_ev (Ev_len_sl te24 rfl) rfl ?_ | refine AL_ev (Ev_len_ref te24 rfl) rfl ?_ | refine AL_ev (Ev_len_nil te24 rfl) rfl ?_ | refine AL_ev (Ev_len_c te24 rfl) rfl ?_
    refine AL_ev (Ev_lss rfl rfl) rfl ?_
    refine AL_nil ?_
    refine hK7 _ _ _ ?_
    refine AC_cond rfl (fun hc2 => ?_) (fun hc2 => ?_)
    · skip
      have hlt : j < ks.length := by simpa using hc2
      obtain ⟨u, hu⟩ : ∃ u, ks[j]? = some u := ⟨_, List.getElem?_eq_getElem hlt⟩
      have hu2 := injs_get hu
      refine AC_skip ?_
      refine hK6 _ _ _ ?_
      refine AC_seq fun K8 hK8 => ?_
      refine AC_block ?_
      refine AC_seq fun K9 hK9 => ?_
      refine AC_draw hT follows [0, 1, 2, 3, 4, 5, 6, 7, 8, 9] (by kernel_rfl) ?_
      refine DT_ev rfl (EA_move) rfl ?_
      refine DT_ev rfl (EA_move) rfl ?_
      first | refine DT_ev rfl (EA_ix_sl rfl rfl te24 ts35 (by omega) (by assumption)) rfl ?_ | refine DT_ev rfl (EA_ix_ref rfl rfl te24 ts35 (by omega) (by first | omega | (simp; omega))) rfl ?_
      first | refine DT_ev rfl (EA_load_ptr rfl rfl rfl rfl rfl rfl ts35 ta35 (by first | rfl | assumption | simp) (by intro h; cases h)) rfl ?_ | refine DT_ev rfl (EA_load_rp rfl rfl rfl ts35 ta35 (by first | rfl | assumption | simp) (by intro h; cases h)) rfl ?_
      refine DT_ev rfl (EA_move) rfl ?_
      refine DT_ev rfl (EA_move) rfl ?_
      first | refine DT_ev rfl (EA_ix_sl rfl rfl te24 ts35 (by omega) (by assumption)) rfl ?_ | refine DT_ev rfl (EA_ix_ref rfl rfl te24 ts35 (by omega) (by first | omega | (simp; omega))) rfl ?_
      first | refine DT_ev rfl (EA_load_ptr rfl rfl rfl rfl rfl rfl ts35 ta35 (by first | rfl | assumption | simp) (by intro h; cases h)) rfl ?_ | refine DT_ev rfl (EA_load_rp rfl rfl rfl ts35 ta35 (by first | rfl | assumption | simp) (by intro h; cases h)) rfl ?_
      refine DT_fcall0 rfl rfl cl44 (ih u (List.mem_of_getElem? hu)) rfl rfl ?_
      refine DT_ev rfl (EA_not rfl) rfl ?_
      refine DTi.nil ?_
      refine hK9 _ _ _ ?_
      refine AC_cond rfl (fun hc3 => ?_) (fun hc3 => ?_)
      · skip
        exact absurd hc3 (by simp)
      · skip
        refine AC_skip ?_
        refine hK8 _ _ _ ?_
        refine AC_region ?_
        refine AL_ev (Ev_move) rfl ?_
        first | refine AL_ev (Ev_add rfl rfl _ (wrap_id (by first | omega | (simp; omega)) (by first | omega | (simp; omega)))) rfl ?_ | refine AL_ev (Ev_add rfl rfl _ rfl) rfl ?_
        refine AL_ev (Ev_assign) rfl ?_
        refine AL_nil ?_
        refine closeS (j + 1) [] rfl rfl (by show ks.length - (j + 1) < ks.length - j; omega) hlt BxTo_nil (SlTo_cons (Vw_int (by omega)) (SlTo_cons (by first | exact .rd .d | exact .ptr rfl | exact .ref rfl | exact .any | exact Vw_int (by omega)) (SlTo_cons (by first | exact .rd .d | exact .ptr rfl | exact .ref rfl | exact .any | exact Vw_int (by omega)) SlTo_nil)))
    · skip
      refine AC_exit ?_
      refine hK4 _ _ _ ?_
      refine AC_seq fun K10 hK10 => ?_
      refine AC_region ?_
      refine AL_ev (Ev_assign) rfl ?_
      refine AL_nil ?_
      refine hK10 _ _ _ ?_
      refine AC_ret ?_
      exact ret_ok hdm (.tmp rfl rfl .nil) (.cons .d .nil) rfl

set_option maxHeartbeats 1000000 in
set_option maxRecDepth 4000 in
theorem c_eqTerm (t : T) : PCall Try.prog 44 [inj t, inj t] (· = [.c (.bool true)]) := by
  induction t using T.ind with | h k s m ks ih => ?_
  refine PCall_of (n := 26) Try.func44 rfl rfl (Nat.le_of_ble_eq_true rfl) fun C hdm hT0 => ?_
  have hT := hT0
  refine AC_seq fun K1 hK1 => ?_
  refine AC_region ?_
  refine AL_box (Lay.st [.one, .one, .one, .one]) (nf rfl) rfl (by first | rfl | simp [Lay.len, Lay.lens]) _ rfl rfl ?_
  refine AL_box (Lay.st [.one, .one, .one, .one]) (nf rfl) rfl (by first | rfl | simp [Lay.len, Lay.lens]) _ rfl rfl ?_
  refine AL_ev (Ev_assign) rfl ?_
  refine AL_nil ?_
  refine hK1 _ _ _ ?_
  refine AC_seq fun K2 hK2 => ?_
  refine AC_seq fun K3 hK3 => ?_
  refine AC_region ?_
  first | refine AL_ev (Ev_fa_ptr rfl fa35_0 rfl rfl) rfl ?_ | refine AL_ev (Ev_fa_rp rfl fa35_0 rfl rfl) rfl ?_
  first | refine AL_ev (Ev_load_ptr rfl rfl rfl rfl rfl rfl ts3 ta3 rfl (fun _ => rfl)) rfl ?_ | refine AL_ev (Ev_load_rp rfl rfl rfl ts3 ta3 rfl (fun _ => rfl)) rfl ?_
  first | refine AL_ev (Ev_fa_ptr rfl fa35_0 rfl rfl) rfl ?_ | refine AL_ev (Ev_fa_rp rfl fa35_0 rfl rfl) rfl ?_
  first | refine AL_ev (Ev_load_ptr rfl rfl rfl rfl rfl rfl ts3 ta3 rfl (fun _ => rfl)) rfl ?_ | refine AL_ev (Ev_load_rp rfl rfl rfl ts3 ta3 rfl (fun _ => rfl)) rfl ?_
  refine AL_ev (Ev_neq rfl rfl) rfl ?_
  refine AL_nil ?_
  refine hK3 _ _ _ ?_
  refine AC_cond rfl (fun hc1 => ?_) (fun hc1 => ?_)
  · skip
    exact absurd hc1 (by simp)
  · skip
    refine AC_skip ?_
    refine hK2 _ _ _ ?_
    refine AC_seq fun K4 hK4 => ?_
    refine AC_seq fun K5 hK5 => ?_
    refine AC_region ?_
    first | refine AL_ev (Ev_fa_ptr rfl fa35_1 rfl rfl) rfl ?_ | refine AL_ev (Ev_fa_rp rfl fa35_1 rfl rfl) rfl ?_
    first | refine AL_ev (Ev_load_ptr rfl rfl rfl rfl rfl rfl ts9 ta9 rfl (fun _ => rfl)) rfl ?_ | refine AL_ev (Ev_load_rp rfl rfl rfl ts9 ta9 rfl (fun _ => rfl)) rfl ?_
    first | refine AL_ev (Ev_fa_ptr rfl fa35_1 rfl rfl) rfl ?_ | refine AL_ev (Ev_fa_rp rfl fa35_1 rfl rfl) rfl ?_
    first | refine AL_ev (Ev_load_ptr rfl rfl rfl rfl rfl rfl ts9 ta9 rfl (fun _ => rfl)) rfl ?_ | refine AL_ev (Ev_load_rp rfl rfl rfl ts9 ta9 rfl (fun _ => rfl)) rfl ?_
    refine AL_ev (Ev_sneq rfl rfl) rfl ?_
    refine AL_nil ?_
    refine hK5 _ _ _ ?_
    refine AC_cond rfl (fun hc2 => ?_) (fun hc2 => ?_)
    · skip
      exact absurd hc2 (by simp)
    · skip
      refine AC_skip ?_
      refine hK4 _ _ _ ?_
      refine AC_seq fun K6 hK6 => ?_
      refine AC_seq fun K7 hK7 => ?_
      refine AC_region ?_
      first | refine AL_ev (Ev_fa_ptr rfl fa35_2 rfl rfl) rfl ?_ | refine AL_ev (Ev_fa_rp rfl fa35_2 rfl rfl) rfl ?_
      first | refine AL_ev (Ev_load_ptr rfl rfl rfl rfl rfl rfl ts3 ta3 rfl (fun _ => rfl)) rfl ?_ | refine AL_ev (Ev_load_rp rfl rfl rfl ts3 ta3 rfl (fun _ => rfl)) rfl ?_
      first | refine AL_ev (Ev_fa_ptr rfl fa35_2 rfl rfl) rfl ?_ | refine AL_ev (Ev_fa_rp rfl fa35_2 rfl rfl) rfl ?_
      first | refine AL_ev (Ev_load_ptr rfl rfl rfl rfl rfl rfl ts3 ta3 rfl (fun _ => rfl)) rfl ?_ | refine AL_ev (Ev_load_rp rfl rfl rfl ts3 ta3 rfl (fun _ => rfl)) rfl ?_
      refine AL_ev (Ev_neq rfl rfl) rfl ?_
      refine AL_nil ?_
      refine hK7 _ _ _ ?_
      refine AC_cond rfl (fun hc3 => ?_) (fun hc3 => ?_)
      · skip
        exact absurd hc3 (by simp)
      · skip
        refine AC_skip ?_
        refine hK6 _ _ _ ?_
        refine AC_seq fun K8 hK8 => ?_
        refine AC_seq fun K9 hK9 => ?_
        refine AC_region ?_
        first | refine AL_ev (Ev_fa_ptr rfl fa35_3 rfl rfl) rfl ?_ | refine AL_ev (Ev_fa_rp rfl fa35_3 rfl rfl) rfl ?_
        first | refine AL_ev (Ev_load_ptr rfl rfl rfl rfl rfl rfl ts24 ta24 rfl (fun _ => rfl)) rfl ?_ | refine AL_ev (Ev_load_rp rfl rfl rfl ts24 ta24 rfl (fun _ => rfl)) rfl ?_
        first | refine AL_ev (Ev_fa_ptr rfl fa35_3 rfl rfl) rfl ?_ | refine AL_ev (Ev_fa_rp rfl fa35_3 rfl rfl) rfl ?_
        first | refine AL_ev (Ev_load_ptr rfl rfl rfl rfl rfl rfl ts24 ta24 rfl (fun _ => rfl)) rfl ?_ | refine AL_ev (Ev_load_rp rfl rfl rfl ts24 ta24 rfl (fun _ => rfl)) rfl ?_
        refine AL_fcall0 hT rfl cl11 (c_eqTermS ks ih) rfl rfl ?_
        refine AL_ev (Ev_not rfl) rfl ?_
        refine AL_nil ?_
        refine hK9 _ _ _ ?_
        refine AC_cond rfl (fun hc4 => ?_) (fun hc4 => ?_)
        · skip
          exact absurd hc4 (by simp)
        · skip
          refine AC_skip ?_
          refine hK8 _ _ _ ?_
          refine AC_seq fun K10 hK10 => ?_
          refine AC_region ?_
          refine AL_ev (Ev_assign) rfl ?_
          refine AL_nil ?_
          refine hK10 _ _ _ ?_
          refine AC_ret ?_
          exact ret_ok hdm (.tmp rfl rfl .nil) (.cons .d .nil) rfl

set_option maxHeartbeats 1000000 in
set_option maxRecDepth 4000 in
theorem c_szTermS (ks : List T) (ih : ∀ u ∈ ks, ∀ l : Int, bulk u ≤ l → l ≤ 1099511627776 → PCall Try.prog 36 [inj u, .c (.int .i64 l)] (· = [.c (.int .i64 (l - bulk u))])) (l : Int) (hl0 : ks.length + bulkL ks ≤ l) (hl9 : l ≤ 1099511627776) : PCall Try.prog 7 [.sl LT (injs ks), .c (.int .i64 l)] (· = [.c (.int .i64 (l - (ks.length + bulkL ks)))]) := by
  have hbn := bulkL_nn ks
  refine PCall_of (n := 27) Try.func7 rfl rfl (Nat.le_of_ble_eq_true rfl) fun C hdm hT0 => ?_
  have hT := hT0
  refine AC_seq fun K1 hK1 => ?_
  refine AC_region ?_
  refine AL_ev (Ev_assign) rfl ?_
  refine AL_nil ?_
  refine hK1 _ _ _ ?_
  refine AC_seq fun K2 hK2 => ?_
  refine AC_region ?_
  refine AL_ev (Ev_move) rfl ?_
  refine AL_ev (Ev_move) rfl ?_
  first | refine AL_lim (x := (Operand.tmp 7)) rfl fun hl1 => ?_ | refine AL_limB (x := (Operand.tmp 7)) rfl rfl (by first | rfl | (simp; done) | (simp; omega)) fun hl1 => ?_ | have hl1 := True.intro
  try simp only [injs_length, ints_length, strs_length, injCs_length, List.length_map] at hl1
  first | refine AL_ev (Ev_len_injs te22 rfl) rfl ?_ | refine AL_ev (Ev_len_sl te22 rfl) rfl ?_ | refine AL_ev (Ev_len_ref te22 rfl) rfl ?_ | refine AL_ev (Ev_len_nil te22 rfl) rfl ?_ | refine AL_ev (Ev_len_c te22 rfl) rfl ?_
  first | refine AL_ev (Ev_sub rfl rfl _ (wrap_id (by first | omega | (simp; omega)) (by first | omega | (simp; omega)))) rfl ?_ | refine AL_ev (Ev_sub rfl rfl _ rfl) rfl ?_
  refine AL_ev (Ev_assign) rfl ?_
  refine AL_nil ?_
  refine hK2 _ _ _ ?_
  refine AC_seq fun K3 hK3 => ?_
  refine AC_seq fun K4 hK4 => ?_
  refine AC_region ?_
  refine AL_ev (Ev_move) rfl ?_
  refine AL_ev (Ev_lss rfl rfl) rfl ?_
  refine AL_nil ?_
  refine hK4 _ _ _ ?_
  refine AC_cond rfl (fun hc1 => ?_) (fun hc1 => ?_)
  · skip
    have : l - (ks.length : Int) < 0 := by simpa using hc1
    omega
  · skip
    refine AC_skip ?_
    refine hK3 _ _ _ ?_
    refine AC_seq fun K5 hK5 => ?_
    refine AC_seq fun K6 hK6 => ?_
    refine AC_region ?_
    refine AL_ev (Ev_assign) rfl ?_
    refine AL_nil ?_
    refine hK6 _ _ _ ?_
    refine AC_block ?_
    refine AC_loopS [0] (Nat) (fun j => [(1, i64 (l - ks.length - bulkL (ks.take j))), (5, i64 j)]) (fun j => []) (fun j => ks.length - j) (fun j => j ≤ ks.length) (0) ?_ ?_ ?_
    · skip
      exact enterS [] rfl rfl BxTo_nil (SlTo_cons (Vw_int (by simp [bulkL])) (SlTo_cons (by first | exact .rd .d | exact .ptr rfl | exact .ref rfl | exact .any | exact Vw_int (by omega)) (SlTo_cons (by first | exact .rd .d | exact .ptr rfl | exact .ref rfl | exact .any | exact Vw_int (by omega)) SlTo_nil)))
    · skip
      exact Nat.zero_le _
    intro j hj
    have hbt := bulkL_take_le ks j
    have hbn2 := bulkL_nn (ks.take j)
    refine AC_seq fun K7 hK7 => ?_
    refine AC_seq fun K8 hK8 => ?_
    refine AC_region ?_
    refine AL_ev (Ev_move) rfl ?_
    refine AL_ev (Ev_move) rfl ?_
    first | refine AL_lim (x := (Operand.tmp 13)) rfl fun hl2 => ?_ | refine AL_limB (x := (Operand.tmp 13)) rfl rfl (by first | rfl | (simp; done) | (simp; omega)) fun hl2 => ?_ | have hl2 := True.intro
    try simp only [injs_length, ints_length, strs_length, injCs_length, List.length_map] at hl2
    first | refine AL_ev (Ev_len_injs te22 rfl) rfl ?_ | refine AL_ev (Ev_len_sl te22 rfl) rfl ?_ | refine AL_ev (Ev_len_ref te22 rfl) rfl ?_ | refine AL_ev (Ev_len_nil te22 rfl) rfl ?_ | refine AL_ev (Ev_len_c te22 rfl) rfl ?_
    refine AL_ev (Ev_lss rfl rfl) rfl ?_
    refine AL_nil ?_
    refine hK8 _ _ _ ?_
    refine AC_cond rfl (fun hc2 => ?_) (fun hc2 => ?_)
    · skip
      have hlt : j < ks.length := by simpa using hc2
      obtain ⟨u, hu⟩ : ∃ u, ks[j]? = some u := ⟨_, List.getElem?_eq_getElem hlt⟩
      have hu2 := injs_get hu
      have hbt2 := bulkL_take_le ks (j + 1)
      rw [bulkL_take hu] at hbt2
      refine AC_skip ?_
      refine hK7 _ _ _ ?_
      refine AC_seq fun K9 hK9 => ?_
      refine AC_block ?_
      refine AC_seq fun K10 hK10 => ?_
      refine AC_region ?_
      refine AL_ev (Ev_move) rfl ?_
      refine AL_ev (Ev_move) rfl ?_
      first | refine AL_ev (Ev_ix_sl rfl rfl te22 ts51 (by omega) (by assumption)) rfl ?_ | refine AL_ev (Ev_ix_ref rfl rfl te22 ts51 (by omega) (by first | omega | (simp; omega))) rfl ?_
      first | refine AL_ev (Ev_load_ptr rfl rfl rfl rfl rfl rfl ts51 ta51 (by first | rfl | assumption | simp) (by intro h; cases h)) rfl ?_ | refine AL_ev (Ev_load_rp rfl rfl rfl ts51 ta51 (by first | rfl | assumption | simp) (by intro h; cases h)) rfl ?_
      refine AL_ev (Ev_move) rfl ?_
      refine AL_fcall0 hT rfl cl36 (ih u (List.mem_of_getElem? hu) (l - ks.length - bulkL (ks.take j)) (by omega) (by omega)) rfl rfl ?_
      refine AL_ev (Ev_assign) rfl ?_
      refine AL_nil ?_
      refine hK10 _ _ _ ?_
      refine AC_seq fun K11 hK11 => ?_
      refine AC_region ?_
      refine AL_ev (Ev_move) rfl ?_
      refine AL_ev (Ev_lss rfl rfl) rfl ?_
      refine AL_nil ?_
      refine hK11 _ _ _ ?_
      refine AC_cond rfl (fun hc3 => ?_) (fun hc3 => ?_)
      · skip
        have : l - ks.length - bulkL (ks.take j) - bulk u < 0 := by simpa using hc3
        omega
      · skip
        refine AC_skip ?_
        refine hK9 _ _ _ ?_
        refine AC_region ?_
        refine AL_ev (Ev_move) rfl ?_
        first | refine AL_ev (Ev_add rfl rfl _ (wrap_id (by first | omega | (simp; omega)) (by first | omega | (simp; omega)))) rfl ?_ | refine AL_ev (Ev_add rfl rfl _ rfl) rfl ?_
        refine AL_ev (Ev_assign) rfl ?_
        refine AL_nil ?_
        refine closeS (j + 1) [] rfl rfl (by show ks.length - (j + 1) < ks.length - j; omega) hlt BxTo_nil (SlTo_cons (Vw_int (by rw [bulkL_take hu]; omega)) (SlTo_cons (Vw_int (by omega)) (SlTo_cons (by first | exact .rd .d | exact .ptr rfl | exact .ref rfl | exact .any | exact Vw_int (by omega)) SlTo_nil)))
    · skip
      refine AC_exit ?_
      refine hK5 _ _ _ ?_
      refine AC_seq fun K12 hK12 => ?_
      refine AC_region ?_
      refine AL_ev (Ev_move) rfl ?_
      refine AL_ev (Ev_assign) rfl ?_
      refine AL_nil ?_
      refine hK12 _ _ _ ?_
      refine AC_ret ?_
      have hj2 : j = ks.length := by
        have : ¬ j < ks.length := by simpa using hc2
        omega
      subst hj2
      exact ret_ok hdm (.tmp rfl rfl .nil) (.cons .d .nil) (by rw [List.take_length]; congr 3; omega)

set_option maxHeartbeats 1000000 in
set_option maxRecDepth 4000 in
theorem c_szTerm (t : T) : ∀ l : Int, bulk t ≤ l → l ≤ 1099511627776 → PCall Try.prog 36 [inj t, .c (.int .i64 l)] (· = [.c (.int .i64 (l - bulk t))]) := by
  induction t using T.ind with | h k s m ks ih => ?_
  intro l hl0 hl9
  have hl1 : (s.size : Int) + bulkS ks ≤ l := by simpa only [bulk] using hl0
  rw [bulkS_eq] at hl1
  have hbn := bulkL_nn ks
  refine PCall_of (n := 19) Try.func36 rfl rfl (Nat.le_of_ble_eq_true rfl) fun C hdm hT0 => ?_
  have hT := hT0
  refine AC_seq fun K1 hK1 => ?_
  refine AC_region ?_
  refine AL_box (Lay.st [.one, .one, .one, .one]) (nf rfl) rfl (by first | rfl | simp [Lay.len, Lay.lens]) _ rfl rfl ?_
  refine AL_ev (Ev_assign) rfl ?_
  refine AL_nil ?_
  refine hK1 _ _ _ ?_
  refine AC_seq fun K2 hK2 => ?_
  refine AC_region ?_
  refine AL_ev (Ev_move) rfl ?_
  first | refine AL_ev (Ev_fa_ptr rfl fa51_1 rfl rfl) rfl ?_ | refine AL_ev (Ev_fa_rp rfl fa51_1 rfl rfl) rfl ?_
  first | refine AL_ev (Ev_load_ptr rfl rfl rfl rfl rfl rfl ts9 ta9 rfl (fun _ => rfl)) rfl ?_ | refine AL_ev (Ev_load_rp rfl rfl rfl ts9 ta9 rfl (fun _ => rfl)) rfl ?_
  refine AL_ev (Ev_len_str tstr9 rfl) rfl ?_
  first | refine AL_ev (Ev_sub rfl rfl _ (wrap_id (by first | omega | (simp; omega)) (by first | omega | (simp; omega)))) rfl ?_ | refine AL_ev (Ev_sub rfl rfl _ rfl) rfl ?_
  refine AL_ev (Ev_assign) rfl ?_
  refine AL_nil ?_
  refine hK2 _ _ _ ?_
  refine AC_seq fun K3 hK3 => ?_
  refine AC_seq fun K4 hK4 => ?_
  refine AC_region ?_
  refine AL_ev (Ev_move) rfl ?_
  refine AL_ev (Ev_lss rfl rfl) rfl ?_
  refine AL_nil ?_
  refine hK4 _ _ _ ?_
  refine AC_cond rfl (fun hc1 => ?_) (fun hc1 => ?_)
  · skip
    have : l - (s.size : Int) < 0 := by simpa using hc1
    omega
  · skip
    refine AC_skip ?_
    refine hK3 _ _ _ ?_
    refine AC_seq fun K5 hK5 => ?_
    refine AC_region ?_
    first | refine AL_ev (Ev_fa_ptr rfl fa51_3 rfl rfl) rfl ?_ | refine AL_ev (Ev_fa_rp rfl fa51_3 rfl rfl) rfl ?_
    first | refine AL_ev (Ev_load_ptr rfl rfl rfl rfl rfl rfl ts22 ta22 rfl (fun _ => rfl)) rfl ?_ | refine AL_ev (Ev_load_rp rfl rfl rfl ts22 ta22 rfl (fun _ => rfl)) rfl ?_
    refine AL_ev (Ev_move) rfl ?_
    refine AL_fcall0 hT rfl cl7 (c_szTermS ks ih (l - s.size) (by omega) (by omega)) rfl rfl ?_
    refine AL_ev (Ev_assign) rfl ?_
    refine AL_nil ?_
    refine hK5 _ _ _ ?_
    refine AC_seq fun K6 hK6 => ?_
    refine AC_seq fun K7 hK7 => ?_
    refine AC_region ?_
    refine AL_ev (Ev_move) rfl ?_
    refine AL_ev (Ev_lss rfl rfl) rfl ?_
    refine AL_nil ?_
    refine hK7 _ _ _ ?_
    refine AC_cond rfl (fun hc2 => ?_) (fun hc2 => ?_)
    · skip
      have : l - (s.size : Int) - (ks.length + bulkL ks) < 0 := by simpa using hc2
      omega
    · skip
      refine AC_skip ?_
      refine hK6 _ _ _ ?_
      refine AC_seq fun K8 hK8 => ?_
      refine AC_region ?_
      refine AL_ev (Ev_move) rfl ?_
      refine AL_ev (Ev_assign) rfl ?_
      refine AL_nil ?_
      refine hK8 _ _ _ ?_
      refine AC_ret ?_
      exact ret_ok hdm (.tmp rfl rfl .nil) (.cons .d .nil) (by simp only [bulk, bulkS_eq]; congr 3; omega)

set_option maxHeartbeats 1000000 in
set_option maxRecDepth 4000 in
theorem c_markText (k : Int) (hk9 : k ≤ 1099511627776) : PCall0 Try.prog 45 [.c (.int .i64 k)] (· = [.c (.string (mtext k))]) := by
  refine PCall0_of (n := 20) Try.func45 rfl rfl (Nat.le_of_ble_eq_true rfl) fun C hdm => ?_
  refine AC_seq fun K1 hK1 => ?_
  refine AC_region ?_
  refine AL_ev (Ev_assign) rfl ?_
  refine AL_nil ?_
  refine hK1 _ _ _ ?_
  refine AC_seq fun K2 hK2 => ?_
  refine AC_seq fun K3 hK3 => ?_
  refine AC_region ?_
  refine AL_ev (Ev_move) rfl ?_
  refine AL_ev (Ev_leq rfl rfl) rfl ?_
  refine AL_nil ?_
  refine hK3 _ _ _ ?_
  refine AC_cond rfl (fun hc1 => ?_) (fun hc1 => ?_)
  · skip
    refine AC_seq fun K4 hK4 => ?_
    refine AC_region ?_
    refine AL_ev (Ev_assign) rfl ?_
    refine AL_nil ?_
    refine hK4 _ _ _ ?_
    refine AC_ret ?_
    exact ret_ok hdm (.tmp rfl rfl .nil) (.cons .d .nil) (by rw [mtext, if_pos (by simpa using hc1)])
  · skip
    refine AC_skip ?_
    refine hK2 _ _ _ ?_
    refine AC_seq fun K5 hK5 => ?_
    refine AC_region ?_
    refine AL_ev (Ev_assign) rfl ?_
    refine AL_nil ?_
    refine hK5 _ _ _ ?_
    refine AC_seq fun K6 hK6 => ?_
    refine AC_block ?_
    refine AC_loopS [] (Int × ByteArray) (fun q => [(0, i64 q.1), (3, st q.2)]) (fun q => []) (fun q => q.1.toNat) (fun q => 0 ≤ q.1 ∧ digs q.1.toNat q.1 q.2 = digs k.toNat k ⟨#[]⟩ ∧ q.2.size + q.1.toNat ≤ k.toNat) ((k, ⟨#[]⟩)) ?_ ?_ ?_
    · skip
      exact enterS [] rfl rfl BxTo_nil (SlTo_cons (by first | exact .rd .d | exact .ptr rfl | exact .ref rfl | exact .any | exact Vw_int (by omega)) (SlTo_cons (by first | exact .rd .d | exact .ptr rfl | exact .ref rfl | exact .any | exact Vw_int (by omega)) SlTo_nil))
    · skip
      have : ¬ k ≤ 0 := by simpa using hc1
      exact ⟨by show 0 ≤ k; omega, rfl, by simp [ByteArray.size]⟩
    rintro ⟨k1, s1⟩ ⟨h0, hd, hs⟩
    simp only at h0 hd hs
    show AC _ _ _ _ _ (FS [] _ [(0, i64 k1), (3, st s1)]) []
    refine AC_seq fun K7 hK7 => ?_
    refine AC_seq fun K8 hK8 => ?_
    refine AC_region ?_
    refine AL_ev (Ev_move) rfl ?_
    refine AL_ev (Ev_gtr rfl rfl) rfl ?_
    refine AL_nil ?_
    refine hK8 _ _ _ ?_
    refine AC_cond rfl (fun hc2 => ?_) (fun hc2 => ?_)
    · skip
      have hk1 : 0 < k1 := by simpa using hc2
      have ht := tdiv10 hk1
      have hz1 : (strOfNums [IntKind.u8.wrap (IntKind.i64.wrap (48 + Int.tmod k1 10))]).size = 1 := by rw [strOfNums_size]; rfl
      have hbd : (strOfNums [IntKind.u8.wrap (IntKind.i64.wrap (48 + Int.tmod k1 10))]).size + s1.size ≤ 4611686018427387904 := by rw [hz1]; omega
      refine AC_skip ?_
      refine hK7 _ _ _ ?_
      refine AC_block ?_
      refine AC_seq fun K9 hK9 => ?_
      refine AC_region ?_
      refine AL_ev (Ev_move) rfl ?_
      refine AL_ev (Ev_rem rfl rfl (by decide)) rfl ?_
      refine AL_ev (Ev_add rfl rfl _ rfl) rfl ?_
      refine AL_ev (Ev_conv_int tund3 tint5 rfl _ rfl) rfl ?_
      first | refine AL_bD .one rfl te30 ts5 tz5 rfl rfl (by decide) (by decide) (by first | rfl | simp [lenDs, goodVs, goodV, V.known, Lay.len, Lay.lens]) rfl ?_ | refine AL_bV .one rfl te30 ts5 tz5 rfl rfl (by decide) (by decide) (by first | rfl | simp [lenDs, goodVs, goodV, V.known, Lay.len, Lay.lens]) _ rfl rfl ?_
      refine AL_ev (Ev_conv_bytes [_] te30 tint5 tstr9 rfl Nat.one_pos) rfl ?_
      refine AL_ev (Ev_move) rfl ?_
      refine AL_ev (Ev_sadd rfl rfl (by first | assumption | omega)) rfl ?_
      refine AL_ev (Ev_assign) rfl ?_
      refine AL_nil ?_
      refine hK9 _ _ _ ?_
      refine AC_region ?_
      refine AL_ev (Ev_move) rfl ?_
      refine AL_ev (Ev_quo rfl rfl (by decide) _ rfl) rfl ?_
      refine AL_ev (Ev_assign) rfl ?_
      refine AL_nil ?_
      have hq : IntKind.i64.wrap (Int.tdiv k1 10) = Int.tdiv k1 10 := wrap_id (by omega) (by omega)
      refine closeS (Int.tdiv k1 10, strOfNums [IntKind.u8.wrap (IntKind.i64.wrap (48 + Int.tmod k1 10))] ++ s1) [] rfl rfl (by show (Int.tdiv k1 10).toNat < k1.toNat; omega) ⟨ht.1, by rw [← hd]; exact (digs_step hk1).symm, ?_⟩ BxTo_nil (SlTo_cons (Vw_int hq) (SlTo_cons (by first | exact .rd .d | exact .ptr rfl | exact .ref rfl | exact .any | exact Vw_int (by omega)) SlTo_nil))
      show (strOfNums [IntKind.u8.wrap (IntKind.i64.wrap (48 + Int.tmod k1 10))] ++ s1).size + (Int.tdiv k1 10).toNat ≤ k.toNat
      rw [ByteArray.size_append, hz1]
      omega
    · skip
      have hk1 : k1 = 0 := by
        have : ¬ 0 < k1 := by simpa using hc2
        omega
      subst hk1
      have hbd : (⟨#[109]⟩ : ByteArray).size + s1.size ≤ 4611686018427387904 := by
        have h1 : (⟨#[109]⟩ : ByteArray).size = 1 := rfl
        have h3 : (0 : Int).toNat = 0 := rfl
        rw [h1]
        omega
      refine AC_exit ?_
      refine hK6 _ _ _ ?_
      refine AC_seq fun K10 hK10 => ?_
      refine AC_region ?_
      refine AL_ev (Ev_move) rfl ?_
      refine AL_ev (Ev_sadd rfl rfl (by first | assumption | omega)) rfl ?_
      refine AL_ev (Ev_assign) rfl ?_
      refine AL_nil ?_
      refine hK10 _ _ _ ?_
      refine AC_ret ?_
      exact ret_ok hdm (.tmp rfl rfl .nil) (.cons .d .nil) (by rw [mtext, if_neg (by simpa using hc1), ← hd]; rfl)

set_option maxHeartbeats 1000000 in
set_option maxRecDepth 4000 in
theorem c_markKids (t : T) : ∀ k : Int, 0 ≤ k → k + cntL t.kids ≤ 1099511627776 → MCall Try.prog 12 (.sl LT (injs t.kids)) (k) (.sl LT (injs (mkL k t.kids))) (k + cntL t.kids) := by
  induction t using T.ind with | h k0 s0 m0 ks ih => ?_
  intro k hk0 hk9
  simp only [T.kids] at hk9 ⊢
  have hcn := cntL_nn ks
  refine MCall_of (n := 42) .one Try.func12 rfl rfl (by decide) rfl rfl fun C0 cs K hdm hh hcl => ?_
  rcases open_terms hh with ⟨rfl, rfl, rfl⟩ | ⟨b, Cp, tail, ty, As, K', rfl, hbK, rfl, hB0, hA, hk0', hlen, hcc, hcd, hce⟩
  · skip
    skip
    refine AC_seq fun K1 hK1 => ?_
    refine AC_region ?_
    refine AL_ev (Ev_assign) rfl ?_
    refine AL_nil ?_
    refine hK1 _ _ _ ?_
    refine AC_seq fun K2 hK2 => ?_
    refine AC_seq fun K3 hK3 => ?_
    refine AC_region ?_
    refine AL_ev (Ev_assign) rfl ?_
    refine AL_nil ?_
    refine hK3 _ _ _ ?_
    refine AC_block ?_
    refine AC_loopS [0, 1] (Nat) (fun j => [(5, i64 0)]) (fun j => []) (fun j => j) (fun j => True) (0) ?_ ?_ ?_
    · skip
      exact enterS [] rfl rfl BxTo_nil (SlTo_cons (by first | exact .rd .d | exact .ptr rfl | exact .ref rfl | exact .any | exact Vw_int (by omega)) (SlTo_cons (by first | exact .rd .d | exact .ptr rfl | exact .ref rfl | exact .any | exact Vw_int (by omega)) (SlTo_cons (by first | exact .rd .d | exact .ptr rfl | exact .ref rfl | exact .any | exact Vw_int (by omega)) SlTo_nil)))
    · skip
      trivial
    intro j _
    refine AC_seq fun K4 hK4 => ?_
    refine AC_seq fun K5 hK5 => ?_
    refine AC_region ?_
    refine AL_ev (Ev_move) rfl ?_
    refine AL_ev (Ev_move) rfl ?_
    first | refine AL_lim (x := (Operand.tmp 7)) rfl fun hl1 => ?_ | refine AL_limB (x := (Operand.tmp 7)) rfl rfl (by first | rfl | (simp; done) | (simp; omega)) fun hl1 => ?_ | have hl1 := True.intro
    try simp only [injs_length, ints_length, strs_length, injCs_length, List.length_map] at hl1
    first | refine AL_ev (Ev_len_injs te24 rfl) rfl ?_ | refine AL_ev (Ev_len_sl te24 rfl) rfl ?_ | refine AL_ev (Ev_len_ref te24 rfl) rfl ?_ | refine AL_ev (Ev_len_nil te24 rfl) rfl ?_ | refine AL_ev (Ev_len_c te24 rfl) rfl ?_
    refine AL_ev (Ev_lss rfl rfl) rfl ?_
    refine AL_nil ?_
    refine hK5 _ _ _ ?_
    refine AC_cond rfl (fun hc1 => ?_) (fun hc1 => ?_)
    · skip
      exact absurd hc1 (by simp)
    · skip
      refine AC_exit ?_
      refine hK2 _ _ _ ?_
      refine AC_seq fun K6 hK6 => ?_
      refine AC_region ?_
      refine AL_ev (Ev_move) rfl ?_
      refine AL_ev (Ev_assign) rfl ?_
      refine AL_nil ?_
      refine hK6 _ _ _ ?_
      refine AC_ret ?_
      rw [show k + cntL [] = k by simp [cntL]]
      exact retM_ok (Mk.refl C0 []) hdm (.tmp rfl rfl .nil) (by simpa [mkL] using hh)
  · skip
    have hce9 : ks.length ≤ 1099511627776 := hce
    refine AC_seq fun K1 hK1 => ?_
    refine AC_region ?_
    refine AL_ev (Ev_assign) rfl ?_
    refine AL_nil ?_
    refine hK1 _ _ _ ?_
    refine AC_seq fun K2 hK2 => ?_
    refine AC_seq fun K3 hK3 => ?_
    refine AC_region ?_
    refine AL_ev (Ev_assign) rfl ?_
    refine AL_nil ?_
    refine hK3 _ _ _ ?_
    refine AC_block ?_
    refine AC_loopX (Nat) (fun j => [(1, i64 (k + cntL (ks.take j))), (5, i64 j)]) (fun j => []) (fun j => ks.length - j) (fun C j => j ≤ ks.length ∧ Mk C0 (b :: K') C ∧ Blk C b (rowsL ((mkL k ks).take j ++ ks.drop j) As ++ tail) ty ∧ HasK C ((mkL k ks).take j ++ ks.drop j) As K') [0] ?_ ?_
    · skip
      exact enterX 0 [] rfl rfl ⟨Nat.zero_le _, Mk.refl _ _, by simpa using hB0, by simpa using hk0'⟩ BxTo_nil (SlTo_cons (Vw_int (by simp [cntL])) (SlTo_cons (by first | exact .rd .d | exact .ptr rfl | exact .ref rfl | exact .any | exact Vw_int (by omega)) (SlTo_cons (by first | exact .rd .d | exact .ptr rfl | exact .ref rfl | exact .any | exact Vw_int (by omega)) SlTo_nil)))
    rintro CL j ⟨hj, hM, hB, hk⟩
    refine AC_seq fun K4 hK4 => ?_
    refine AC_seq fun K5 hK5 => ?_
    refine AC_region ?_
    refine AL_ev (Ev_move) rfl ?_
    refine AL_ev (Ev_move) rfl ?_
    first | refine AL_lim (x := (Operand.tmp 7)) rfl fun hl1 => ?_ | refine AL_limB (x := (Operand.tmp 7)) rfl rfl (by first | rfl | (simp; done) | (simp; omega)) fun hl1 => ?_ | have hl1 := True.intro
    try simp only [injs_length, ints_length, strs_length, injCs_length, List.length_map] at hl1
    first | refine AL_ev (Ev_len_injs te24 rfl) rfl ?_ | refine AL_ev (Ev_len_sl te24 rfl) rfl ?_ | refine AL_ev (Ev_len_ref te24 rfl) rfl ?_ | refine AL_ev (Ev_len_nil te24 rfl) rfl ?_ | refine AL_ev (Ev_len_c te24 rfl) rfl ?_
    refine AL_ev (Ev_lss rfl rfl) rfl ?_
    refine AL_nil ?_
    refine hK5 _ _ _ ?_
    refine AC_cond rfl (fun hc1 => ?_) (fun hc1 => ?_)
    · skip
      have hlt : j < ks.length := by simpa using hc1
      obtain ⟨⟨a, s, m, us⟩, hu⟩ : ∃ u, ks[j]? = some u := ⟨_, List.getElem?_eq_getElem hlt⟩
      have hdr : ks.drop j = .mk a s m us :: ks.drop (j + 1) := by
        rw [List.drop_eq_getElem_cons hlt]
        congr 1
        rw [List.getElem?_eq_getElem hlt] at hu
        injection hu
      rw [hdr] at hB hk
      have hxl : ((mkL k ks).take j).length = j := by simp; omega
      have hAl : As.length = ((mkL k ks).take j ++ .mk a s m us :: ks.drop (j + 1)).length := by rw [hA]; simp; omega
      have hct := cntL_take_le ks (j + 1)
      rw [cntL_take hu] at hct
      simp only [cntT] at hct
      have hcj := cntL_nn (ks.take j)
      have hcu := cntL_nn us
      have hmk : (mkL k ks).take (j + 1) = (mkL k ks).take j ++ [mkT (k + cntL (ks.take j)) (.mk a s m us)] := take_succ_get (mkL_get ks k j _ hu)
      refine AC_skip ?_
      refine hK4 _ _ _ ?_
      refine AC_seq fun K6 hK6 => ?_
      refine AC_block ?_
      refine AC_seq fun K7 hK7 => ?_
      refine AC_region ?_
      refine AL_ev (Ev_move) rfl ?_
      refine AL_ev (Ev_move) rfl ?_
      refine AL_ev (Ev_move) rfl ?_
      refine AL_ev (Ev_ix_raw rfl rfl te24 ts35 (by omega) (by first | omega | (simp; omega))) rfl ?_
      refine AL_ev (Ev_fa_raw rfl fa35_0) rfl ?_
      refine AL_rstore rfl rfl hB (by rw [List.length_append, rowsL_length _ _ (by simpa using hAl)]; simp; omega) ts3 (by first | rfl | assumption) rfl fun D1 hk1 hb1 => ?_
      have hM := hM.trans hk1 (fun x hx _ => by rw [List.mem_singleton] at hx; simp [hx])
      have hB : Blk D1 b (rowsL ((mkL k ks).take j ++ (.mk (k + cntL (ks.take j)) s m us) :: ks.drop (j + 1)) As ++ tail) ty := hb1.cast ((congrArg (fun o => List.set _ o _) (show 0 + ((j : Nat) : Int).toNat * 4 + 0 = 4 * ((mkL k ks).take j).length + 0 by rw [hxl]; simp; omega)).trans (rows_set _ (.mk a s m us) (.mk (k + cntL (ks.take j)) s m us) _ As tail 0 _ (by simpa using hAl) (fun A r => rfl)))
      have hk := hk.marked hk1 (fun x hx hx2 => by rw [List.mem_singleton] at hx2; exact hbK (hx2 ▸ hx))
      refine AL_nil ?_
      refine hK7 _ _ _ ?_
      refine AC_seq fun K8 hK8 => ?_
      refine AC_region ?_
      refine AL_ev (Ev_move) rfl ?_
      first | refine AL_ev (Ev_add rfl rfl _ (wrap_id (by first | omega | (simp; omega)) (by first | omega | (simp; omega)))) rfl ?_ | refine AL_ev (Ev_add rfl rfl _ rfl) rfl ?_
      refine AL_ev (Ev_assign) rfl ?_
      refine AL_nil ?_
      refine hK8 _ _ _ ?_
      refine AC_seq fun K9 hK9 => ?_
      refine AC_region ?_
      refine AL_ev (Ev_move) rfl ?_
      refine AL_ev (Ev_move) rfl ?_
      refine AL_ev (Ev_move) rfl ?_
      refine AL_fcallz rfl cl45 (c_markText ((k + cntL (ks.take j)) + 1) (by omega)) rfl rfl ?_
      refine AL_ev (Ev_ix_raw rfl rfl te24 ts35 (by omega) (by first | omega | (simp; omega))) rfl ?_
      refine AL_ev (Ev_fa_raw rfl fa35_1) rfl ?_
      refine AL_rstore rfl rfl hB (by rw [List.length_append, rowsL_length _ _ (by simpa using hAl)]; simp; omega) ts9 (by first | rfl | assumption) rfl fun D2 hk2 hb2 => ?_
      have hM := hM.trans hk2 (fun x hx _ => by rw [List.mem_singleton] at hx; simp [hx])
      have hB : Blk D2 b (rowsL ((mkL k ks).take j ++ (.mk (k + cntL (ks.take j)) (mtext ((k + cntL (ks.take j)) + 1)) m us) :: ks.drop (j + 1)) As ++ tail) ty := hb2.cast ((congrArg (fun o => List.set _ o _) (show 0 + ((j : Nat) : Int).toNat * 4 + 1 = 4 * ((mkL k ks).take j).length + 1 by rw [hxl]; simp; omega)).trans (rows_set _ (.mk (k + cntL (ks.take j)) s m us) (.mk (k + cntL (ks.take j)) (mtext ((k + cntL (ks.take j)) + 1)) m us) _ As tail 1 _ (by simpa using hAl) (fun A r => rfl)))
      have hk := hk.marked hk2 (fun x hx hx2 => by rw [List.mem_singleton] at hx2; exact hbK (hx2 ▸ hx))
      refine AL_nil ?_
      refine hK9 _ _ _ ?_
      refine AC_seq fun K10 hK10 => ?_
      refine AC_region ?_
      refine AL_ev (Ev_move) rfl ?_
      first | refine AL_ev (Ev_add rfl rfl _ (wrap_id (by first | omega | (simp; omega)) (by first | omega | (simp; omega)))) rfl ?_ | refine AL_ev (Ev_add rfl rfl _ rfl) rfl ?_
      refine AL_ev (Ev_assign) rfl ?_
      refine AL_nil ?_
      refine hK10 _ _ _ ?_
      refine AC_seq fun K11 hK11 => ?_
      refine AC_region ?_
      refine AL_ev (Ev_move) rfl ?_
      refine AL_ev (Ev_move) rfl ?_
      refine AL_ev (Ev_move) rfl ?_
      refine AL_ev (Ev_ix_raw rfl rfl te24 ts35 (by omega) (by first | omega | (simp; omega))) rfl ?_
      refine AL_ev (Ev_fa_raw rfl fa35_2) rfl ?_
      refine AL_rstore rfl rfl hB (by rw [List.length_append, rowsL_length _ _ (by simpa using hAl)]; simp; omega) ts3 (by first | rfl | assumption) rfl fun D3 hk3 hb3 => ?_
      have hM := hM.trans hk3 (fun x hx _ => by rw [List.mem_singleton] at hx; simp [hx])
      have hB : Blk D3 b (rowsL ((mkL k ks).take j ++ (.mk (k + cntL (ks.take j)) (mtext ((k + cntL (ks.take j)) + 1)) ((k + cntL (ks.take j)) + 1 + 1) us) :: ks.drop (j + 1)) As ++ tail) ty := hb3.cast ((congrArg (fun o => List.set _ o _) (show 0 + ((j : Nat) : Int).toNat * 4 + 2 = 4 * ((mkL k ks).take j).length + 2 by rw [hxl]; simp; omega)).trans (rows_set _ (.mk (k + cntL (ks.take j)) (mtext ((k + cntL (ks.take j)) + 1)) m us) (.mk (k + cntL (ks.take j)) (mtext ((k + cntL (ks.take j)) + 1)) ((k + cntL (ks.take j)) + 1 + 1) us) _ As tail 2 _ (by simpa using hAl) (fun A r => rfl)))
      have hk := hk.marked hk3 (fun x hx hx2 => by rw [List.mem_singleton] at hx2; exact hbK (hx2 ▸ hx))
      obtain ⟨A, Kj, hAj, hHj, hKj, hstep⟩ := HasK.step hk
      have hcur : (rowsL ((mkL k ks).take j ++ (.mk (k + cntL (ks.take j)) (mtext ((k + cntL (ks.take j)) + 1)) ((k + cntL (ks.take j)) + 1 + 1) us) :: ks.drop (j + 1)) As ++ tail)[0 + ((j : Nat) : Int).toNat * 4 + 3]? = some A := by
        rw [show 0 + ((j : Nat) : Int).toNat * 4 + 3 = 4 * ((mkL k ks).take j).length + 3 by rw [hxl]; simp; omega]
        exact rows_kids _ _ _ As tail A hAj
      have hsA : Value.scalar A = true := Tr_scalar _ _ _ hHj.tr A (by simp)
      refine AL_nil ?_
      refine hK11 _ _ _ ?_
      refine AC_seq fun K12 hK12 => ?_
      refine AC_region ?_
      refine AL_ev (Ev_move) rfl ?_
      first | refine AL_ev (Ev_add rfl rfl _ (wrap_id (by first | omega | (simp; omega)) (by first | omega | (simp; omega)))) rfl ?_ | refine AL_ev (Ev_add rfl rfl _ rfl) rfl ?_
      refine AL_ev (Ev_assign) rfl ?_
      refine AL_nil ?_
      refine hK12 _ _ _ ?_
      refine AC_region ?_
      refine AL_ev (Ev_move) rfl ?_
      refine AL_ev (Ev_move) rfl ?_
      refine AL_ev (Ev_ix_raw rfl rfl te24 ts35 (by omega) (by first | omega | (simp; omega))) rfl ?_
      refine AL_ev (Ev_fa_raw rfl fa35_3) rfl ?_
      refine AL_ev (Ev_load_raw rfl hB hcur ts24 ta24 (by first | rfl | assumption)) rfl ?_
      refine AL_ev (Ev_move) rfl ?_
      refine AL_mcall .one rfl cl12 (ih (.mk a s m us) (List.mem_of_getElem? hu) ((k + cntL (ks.take j)) + 1 + 1 + 1) (by omega) (by show (k + cntL (ks.take j)) + 1 + 1 + 1 + cntL us ≤ _; omega)) hHj rfl rfl rfl rfl rfl fun E1 hkE hhE => ?_
      have hM := hM.trans hkE (fun x hx _ => by simp [hKj x hx])
      have hB := hB.marked hkE (fun h => hbK (hKj b h))
      have hk := hstep E1 (mkT (k + cntL (ks.take j)) (.mk a s m us)) hkE (by rw [show (k + cntL (ks.take j)) + 1 + 1 + 1 = (k + cntL (ks.take j)) + 3 by omega] at hhE; exact hhE)
      refine AL_ev (Ev_assign) rfl ?_
      refine AL_nil ?_
      refine hK6 _ _ _ ?_
      refine AC_region ?_
      refine AL_ev (Ev_move) rfl ?_
      first | refine AL_ev (Ev_add rfl rfl _ (wrap_id (by first | omega | (simp; omega)) (by first | omega | (simp; omega)))) rfl ?_ | refine AL_ev (Ev_add rfl rfl _ rfl) rfl ?_
      refine AL_ev (Ev_assign) rfl ?_
      refine AL_nil ?_
      refine closeX (j + 1) [] rfl rfl (by show ks.length - (j + 1) < ks.length - j; omega) ⟨hlt, hM, ?_, ?_⟩ BxTo_nil (SlTo_cons (Vw_int (by rw [cntL_take hu]; simp only [cntT, T.kids]; omega)) (SlTo_cons (by first | exact .rd .d | exact .ptr rfl | exact .ref rfl | exact .any | exact Vw_int (by omega)) (SlTo_cons (by first | exact .rd .d | exact .ptr rfl | exact .ref rfl | exact .any | exact Vw_int (by omega)) SlTo_nil)))
      · rw [hmk, List.append_assoc]
        refine hB.cast ?_
        simp only [mkT, List.singleton_append]
        rw [show (k + cntL (ks.take j)) + 1 + 1 = (k + cntL (ks.take j)) + 2 by omega]
        exact rows_kids_eq _ _ _ _ _ _ rfl rfl rfl
      · rw [hmk, List.append_assoc]
        exact hk
    · skip
      refine AC_exit ?_
      refine hK2 _ _ _ ?_
      refine AC_seq fun K13 hK13 => ?_
      refine AC_region ?_
      refine AL_ev (Ev_move) rfl ?_
      refine AL_ev (Ev_assign) rfl ?_
      refine AL_nil ?_
      refine hK13 _ _ _ ?_
      refine AC_ret ?_
      have hj2 : j = ks.length := by
        have : ¬ j < ks.length := by simpa using hc1
        omega
      subst hj2
      rw [List.drop_length, List.append_nil, List.take_of_length_le (by simp)] at hB hk
      rw [List.take_length]
      have hrl := rowsL_length ks As hA
      have hrl2 := rowsL_length (mkL k ks) As (by simpa using hA)
      have hH := close_terms hbK hB (by simpa using hA) hk (by rw [List.length_append, hrl2, mkL_length]; rw [List.length_append, hrl] at hlen; exact hlen) (by simpa using hcc) hcd (by simpa using hce)
      rw [mkL_length] at hH
      exact retM_ok hM hdm (.tmp rfl rfl .nil) hH

end Go.Proofs.Ytjhdkjacfclipaa
