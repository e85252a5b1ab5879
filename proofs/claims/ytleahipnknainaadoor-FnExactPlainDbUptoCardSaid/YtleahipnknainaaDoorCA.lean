/- Contracts of functions. -/
import Derived.Test.YtleahipnknainaaDoorMt
import Derived.Test.YtleahipnknainaaDoorOk
import Derived.Test.YtleahipnknainaaDoorWn
import Derived.Test.YtleahipnknainaaDoorEng27
import Derived.Test.YtleahipnknainaaDoorProg
import Derived.KernelRfl
import Derived.Test.YtleahipnknainaaDoorIt
set_option linter.unusedVariables false
set_option linter.unusedSimpArgs false
namespace Go.Proofs.YtleahipnknainaaDoor
open Go.Eng

theorem tz45 : tyZero Tryd.prog 45 = some (some (.agg #[.int .i64 0, .string ⟨#[]⟩, .int .i64 0, .slice none 0 0])) := by kernel_rfl
theorem tz68 : tyZero Tryd.prog 68 = some (some (.agg #[.int .i64 0, .string ⟨#[]⟩, .int .i64 0, .slice none 0 0, .int .i64 0, .string ⟨#[]⟩, .int .i64 0, .slice none 0 0, .string ⟨#[]⟩])) := by kernel_rfl
theorem cl101 : Callable Tryd.prog 101 := Callable_of Tryd.func101 (by kernel_rfl) (by kernel_rfl)
theorem cl102 : Callable Tryd.prog 102 := Callable_of Tryd.func102 (by kernel_rfl) (by kernel_rfl)
theorem cl24 : Callable Tryd.prog 24 := Callable_of Tryd.func24 (by kernel_rfl) (by kernel_rfl)
theorem cl26 : Callable Tryd.prog 26 := Callable_of Tryd.func26 (by kernel_rfl) (by kernel_rfl)
theorem cl28 : Callable Tryd.prog 28 := Callable_of Tryd.func28 (by kernel_rfl) (by kernel_rfl)
theorem cl29 : Callable Tryd.prog 29 := Callable_of Tryd.func29 (by kernel_rfl) (by kernel_rfl)
theorem cl67 : Callable Tryd.prog 67 := Callable_of Tryd.func67 (by kernel_rfl) (by kernel_rfl)
theorem cl69 : Callable Tryd.prog 69 := Callable_of Tryd.func69 (by kernel_rfl) (by kernel_rfl)
theorem cl70 : Callable Tryd.prog 70 := Callable_of Tryd.func70 (by kernel_rfl) (by kernel_rfl)
theorem cl99 : Callable Tryd.prog 99 := Callable_of Tryd.func99 (by kernel_rfl) (by kernel_rfl)
theorem fa39_0 : tyField Tryd.prog 39 0 = some (0, true) := by kernel_rfl
theorem fa39_1 : tyField Tryd.prog 39 1 = some (1, true) := by kernel_rfl
theorem fa39_2 : tyField Tryd.prog 39 2 = some (2, true) := by kernel_rfl
theorem fa39_3 : tyField Tryd.prog 39 3 = some (3, true) := by kernel_rfl
theorem fa45_0 : tyField Tryd.prog 45 0 = some (0, true) := by kernel_rfl
theorem fa45_1 : tyField Tryd.prog 45 1 = some (1, true) := by kernel_rfl
theorem fa45_2 : tyField Tryd.prog 45 2 = some (2, true) := by kernel_rfl
theorem fa45_3 : tyField Tryd.prog 45 3 = some (3, true) := by kernel_rfl
theorem fa68_0 : tyField Tryd.prog 68 0 = some (0, true) := by kernel_rfl
theorem fa68_1 : tyField Tryd.prog 68 1 = some (4, true) := by kernel_rfl
theorem fa68_2 : tyField Tryd.prog 68 2 = some (8, true) := by kernel_rfl
theorem fa94_0 : tyField Tryd.prog 94 0 = some (0, true) := by kernel_rfl
theorem fa94_1 : tyField Tryd.prog 94 1 = some (4, true) := by kernel_rfl
theorem fa94_2 : tyField Tryd.prog 94 2 = some (8, true) := by kernel_rfl
theorem follows : Tryd.prog.follows .mixedOrders = true := by kernel_rfl
theorem ta3 : tyAgg Tryd.prog 3 = some false := by kernel_rfl
theorem ta37 : tyAgg Tryd.prog 37 = some false := by kernel_rfl
theorem ta39 : tyAgg Tryd.prog 39 = some true := by kernel_rfl
theorem ta41 : tyAgg Tryd.prog 41 = some false := by kernel_rfl
theorem ta45 : tyAgg Tryd.prog 45 = some true := by kernel_rfl
theorem ta68 : tyAgg Tryd.prog 68 = some true := by kernel_rfl
theorem ta9 : tyAgg Tryd.prog 9 = some false := by kernel_rfl
theorem tb45 : tyBytes Tryd.prog 45 = some 56 := by kernel_rfl
theorem te37 : tyElem Tryd.prog 37 = some 39 := by kernel_rfl
theorem te41 : tyElem Tryd.prog 41 = some 45 := by kernel_rfl
theorem ts3 : tySize Tryd.prog 3 = some 1 := by kernel_rfl
theorem ts37 : tySize Tryd.prog 37 = some 1 := by kernel_rfl
theorem ts39 : tySize Tryd.prog 39 = some 4 := by kernel_rfl
theorem ts41 : tySize Tryd.prog 41 = some 1 := by kernel_rfl
theorem ts45 : tySize Tryd.prog 45 = some 4 := by kernel_rfl
theorem ts68 : tySize Tryd.prog 68 = some 9 := by kernel_rfl
theorem ts9 : tySize Tryd.prog 9 = some 1 := by kernel_rfl
theorem tstr9 : tyStr Tryd.prog 9 = true := by kernel_rfl
theorem zo45 : ZeroOf Tryd.prog 45 (Lay.st [.one, .one, .one, .one]) (.d (.agg [.one, .one, .one, .one] [.c (.int .i64 0), .c (.string ⟨#[]⟩), .c (.int .i64 0), .c (.slice none 0 0)])) := ⟨_, tz45, rfl, fun _ _ _ => VC_cells rfl⟩
theorem zo68 : ZeroOf Tryd.prog 68 (Lay.st [(Lay.st [.one, .one, .one, .one]), (Lay.st [.one, .one, .one, .one]), .one]) (.d (.agg [(Lay.st [.one, .one, .one, .one]), (Lay.st [.one, .one, .one, .one]), .one] [.agg [.one, .one, .one, .one] [.c (.int .i64 0), .c (.string ⟨#[]⟩), .c (.int .i64 0), .c (.slice none 0 0)], .agg [.one, .one, .one, .one] [.c (.int .i64 0), .c (.string ⟨#[]⟩), .c (.int .i64 0), .c (.slice none 0 0)], .c (.string ⟨#[]⟩)])) := ⟨_, tz68, rfl, fun _ _ _ => VC_cells rfl⟩

set_option maxHeartbeats 1000000 in
set_option maxRecDepth 4000 in
theorem c_renamed (g : Int → Int) (kk : FuncId) (caps : List D) (hcl : Callable Tryd.prog kk) (hna : caps.all (fun d => !d.isAgg) = true) (hto : ∀ m, PCall Tryd.prog kk ([.c (.int .i64 m)] ++ caps) (· = [.c (.int .i64 (g m))])) (t : T) : PCall Tryd.prog 101 [inj t, .fn kk caps] (· = [inj (rn g t)]) := by
  induction t using T.ind with | h k s m ks ih => ?_
  generalize hm2 : (if k = 1 then g m else m) = m2
  refine PCall_of (n := 35) Tryd.func101 rfl rfl (Nat.le_of_ble_eq_true rfl) fun C hdm hT0 => ?_
  have hT := hT0
  refine AC_seq fun K1 hK1 => ?_
  refine AC_region ?_
  refine AL_box (Lay.st [.one, .one, .one, .one]) (nf rfl) rfl (by first | rfl | simp [Lay.len, Lay.lens]) _ rfl rfl ?_
  refine AL_alloc zo45 _ rfl rfl ?_
  refine AL_nil ?_
  refine hK1 _ _ _ ?_
  refine AC_seq fun K2 hK2 => ?_
  refine AC_region ?_
  first | refine AL_ev (Ev_load_ptr rfl rfl rfl rfl rfl rfl ts45 ta45 (by first | rfl | simp) (by intro h; cases h)) rfl ?_ | refine AL_ev (Ev_load_rp rfl rfl rfl ts45 ta45 (by first | rfl | simp) (by intro h; cases h)) rfl ?_
  refine AL_alloc zo45 _ rfl rfl ?_
  first | refine AL_store rfl (nf rfl) rfl rfl rfl rfl rfl rfl (by first | rfl | simp [Lay.len, Lay.lens]) ts45 rfl rfl ?_ | refine AL_store rfl (nf rfl) rfl rfl rfl hes rfl rfl (by first | rfl | simp [Lay.len, Lay.lens]) ts45 rfl rfl ?_
  refine AL_nil ?_
  refine hK2 _ _ _ ?_
  refine AC_seq fun K3 hK3 => ?_
  refine AC_region ?_
  first | refine AL_ev (Ev_fa_ptr rfl fa45_3 rfl rfl) rfl ?_ | refine AL_ev (Ev_fa_rp rfl fa45_3 rfl rfl) rfl ?_
  first | refine AL_store rfl (nf rfl) rfl rfl rfl rfl rfl rfl (by first | rfl | simp [Lay.len, Lay.lens]) ts41 rfl rfl ?_ | refine AL_store rfl (nf rfl) rfl rfl rfl hes rfl rfl (by first | rfl | simp [Lay.len, Lay.lens]) ts41 rfl rfl ?_
  refine AL_nil ?_
  refine hK3 _ _ _ ?_
  refine AC_seqJ (fun f L => f = frOf [(1, .d (.fn kk caps)), (2, .ptr LT 0 0 []), (4, .ptr LT 1 0 []), (5, .ptr LT 2 0 [])] ∧ L = [some ⟨45, LT, [.d (inj (.mk k s m ks))]⟩, some ⟨45, LT, [.d zT]⟩, some ⟨45, LT, [.agg [.one, .one, .one, .one] [i64 k, st s, i64 m2, nilsl]]⟩]) ?_ ?_
  · skip
    refine AC_seq fun K5 hK5 => ?_
    refine AC_region ?_
    first | refine AL_ev (Ev_fa_ptr rfl fa45_0 rfl rfl) rfl ?_ | refine AL_ev (Ev_fa_rp rfl fa45_0 rfl rfl) rfl ?_
    first | refine AL_ev (Ev_load_ptr rfl rfl rfl rfl rfl rfl ts3 ta3 rfl (fun _ => rfl)) rfl ?_ | refine AL_ev (Ev_load_rp rfl rfl rfl ts3 ta3 rfl (fun _ => rfl)) rfl ?_
    refine AL_ev (Ev_eql rfl rfl) rfl ?_
    refine AL_nil ?_
    refine hK5 _ _ _ ?_
    refine AC_cond rfl (fun hc1 => ?_) (fun hc1 => ?_)
    · skip
      refine AC_region ?_
      refine AL_ev (Ev_move) rfl ?_
      first | refine AL_ev (Ev_fa_ptr rfl fa45_2 rfl rfl) rfl ?_ | refine AL_ev (Ev_fa_rp rfl fa45_2 rfl rfl) rfl ?_
      first | refine AL_ev (Ev_load_ptr rfl rfl rfl rfl rfl rfl ts3 ta3 rfl (fun _ => rfl)) rfl ?_ | refine AL_ev (Ev_load_rp rfl rfl rfl ts3 ta3 rfl (fun _ => rfl)) rfl ?_
      refine AL_fcall hT rfl hna hcl (hto m) rfl rfl ?_
      first | refine AL_ev (Ev_fa_ptr rfl fa45_2 rfl rfl) rfl ?_ | refine AL_ev (Ev_fa_rp rfl fa45_2 rfl rfl) rfl ?_
      first | refine AL_store rfl (nf rfl) rfl rfl rfl rfl rfl rfl (by first | rfl | simp [Lay.len, Lay.lens]) ts3 rfl rfl ?_ | refine AL_store rfl (nf rfl) rfl rfl rfl hes rfl rfl (by first | rfl | simp [Lay.len, Lay.lens]) ts3 rfl rfl ?_
      refine AL_nil ?_
      simp only [decide_eq_true_eq, decide_eq_false_iff_not] at hc1
      refine joinS [some 0, some 1, some 2] rfl rfl (BxTo_some rfl rfl rfl rfl (.cons (.rd .d) .nil) (BxTo_some rfl rfl rfl rfl (.cons (.rd .d) .nil) (BxTo_some rfl rfl rfl rfl (.cons (.agg (.cons (.rd .d) (.cons (.rd .d) (.cons (Vw_int (by subst hm2; first | rw [if_pos hc1] | rw [if_neg hc1])) (.cons (.rd .d) .nil))))) .nil) BxTo_nil))) (SlTo_cons (by first | exact .rd .d | exact .ptr rfl | exact .ref rfl | exact .any | exact Vw_int (by omega)) (SlTo_cons (by first | exact .rd .d | exact .ptr rfl | exact .ref rfl | exact .any | exact Vw_int (by omega)) (SlTo_cons (by first | exact .rd .d | exact .ptr rfl | exact .ref rfl | exact .any | exact Vw_int (by omega)) (SlTo_cons (by first | exact .rd .d | exact .ptr rfl | exact .ref rfl | exact .any | exact Vw_int (by omega)) SlTo_nil))))
    · skip
      refine AC_skip ?_
      simp only [decide_eq_true_eq, decide_eq_false_iff_not] at hc1
      refine joinS [some 0, some 1, some 2] rfl rfl (BxTo_some rfl rfl rfl rfl (.cons (.rd .d) .nil) (BxTo_some rfl rfl rfl rfl (.cons (.rd .d) .nil) (BxTo_some rfl rfl rfl rfl (.cons (.agg (.cons (.rd .d) (.cons (.rd .d) (.cons (Vw_int (by subst hm2; first | rw [if_pos hc1] | rw [if_neg hc1])) (.cons (.rd .d) .nil))))) .nil) BxTo_nil))) (SlTo_cons (by first | exact .rd .d | exact .ptr rfl | exact .ref rfl | exact .any | exact Vw_int (by omega)) (SlTo_cons (by first | exact .rd .d | exact .ptr rfl | exact .ref rfl | exact .any | exact Vw_int (by omega)) (SlTo_cons (by first | exact .rd .d | exact .ptr rfl | exact .ref rfl | exact .any | exact Vw_int (by omega)) (SlTo_cons (by first | exact .rd .d | exact .ptr rfl | exact .ref rfl | exact .any | exact Vw_int (by omega)) SlTo_nil))))
  · skip
    rintro f L ⟨rfl, rfl⟩
    refine AC_seq fun K6 hK6 => ?_
    refine AC_seq fun K7 hK7 => ?_
    refine AC_region ?_
    first | refine AL_ev (Ev_fa_ptr rfl fa45_3 rfl rfl) rfl ?_ | refine AL_ev (Ev_fa_rp rfl fa45_3 rfl rfl) rfl ?_
    first | refine AL_ev (Ev_load_ptr rfl rfl rfl rfl rfl rfl ts41 ta41 rfl (fun _ => rfl)) rfl ?_ | refine AL_ev (Ev_load_rp rfl rfl rfl ts41 ta41 rfl (fun _ => rfl)) rfl ?_
    first | refine AL_lim (x := (Operand.tmp 19)) rfl fun hl1 => ?_ | refine AL_limB (x := (Operand.tmp 19)) rfl rfl (by first | rfl | (simp; done) | (simp; omega)) fun hl1 => ?_ | have hl1 := True.intro
    try simp only [injs_length, ints_length, strs_length, injCs_length, List.length_map] at hl1
    first | refine AL_ev (Ev_len_injs te41 rfl) rfl ?_ | refine AL_ev (Ev_len_sl te41 rfl) rfl ?_ | refine AL_ev (Ev_len_ref te41 rfl) rfl ?_ | refine AL_ev (Ev_len_nil te41 rfl) rfl ?_ | refine AL_ev (Ev_len_c te41 rfl) rfl ?_
    refine AL_ev (Ev_move) rfl ?_
    refine AL_nil ?_
    refine hK7 _ _ _ ?_
    refine AC_block ?_
    refine AC_loopS [1, 2, 4, 5, 19, 20] (Nat) (fun j => [(21, i64 j)]) (fun j => [some ⟨45, LT, [.d (inj (.mk k s m ks))]⟩, some ⟨45, LT, [.d zT]⟩, some ⟨45, LT, [.agg [.one, .one, .one, .one] [i64 k, st s, i64 m2, .ref LT 3 0 j]]⟩, some ⟨45, LT, (injs (rnL g (ks.take j))).map V.d⟩]) (fun j => ks.length - j) (fun j => j ≤ ks.length) (0) ?_ ?_ ?_
    · skip
      refine Wk.then (Wk_nil_box 2 0 [3] 45 LT rfl rfl rfl rfl 3 rfl rfl ?_)
      exact enterS [some 0, some 1, some 2, some 3] rfl rfl (BxTo_some rfl rfl rfl rfl (.cons (.rd .d) .nil) (BxTo_some rfl rfl rfl rfl (.cons (.rd .d) .nil) (BxTo_some rfl rfl rfl rfl (.cons (.agg (.cons (.rd .d) (.cons (.rd .d) (.cons (.rd .d) (.cons (.ref rfl) .nil))))) .nil) (BxTo_some rfl rfl rfl rfl .nil BxTo_nil)))) (SlTo_cons (by first | exact .rd .d | exact .ptr rfl | exact .ref rfl | exact .any | exact Vw_int (by omega)) (SlTo_cons (by first | exact .rd .d | exact .ptr rfl | exact .ref rfl | exact .any | exact Vw_int (by omega)) (SlTo_cons (by first | exact .rd .d | exact .ptr rfl | exact .ref rfl | exact .any | exact Vw_int (by omega)) (SlTo_cons (by first | exact .rd .d | exact .ptr rfl | exact .ref rfl | exact .any | exact Vw_int (by omega)) (SlTo_cons (by first | exact .rd .d | exact .ptr rfl | exact .ref rfl | exact .any | exact Vw_int (by omega)) (SlTo_cons (by first | exact .rd .d | exact .ptr rfl | exact .ref rfl | exact .any | exact Vw_int (by omega)) (SlTo_cons (by first | exact .rd .d | exact .ptr rfl | exact .ref rfl | exact .any | exact Vw_int (by omega)) SlTo_nil)))))))
    · skip
      exact Nat.zero_le _
    intro j hj
    refine AC_seq fun K8 hK8 => ?_
    refine AC_region ?_
    refine AL_ev (Ev_lss rfl rfl) rfl ?_
    refine AL_nil ?_
    refine hK8 _ _ _ ?_
    refine AC_seq fun K9 hK9 => ?_
    refine AC_cond rfl (fun hc2 => ?_) (fun hc2 => ?_)
    · skip
      have hlt : j < ks.length := by simpa [injs_length] using hc2
      obtain ⟨u, hu⟩ : ∃ u, ks[j]? = some u := ⟨_, List.getElem?_eq_getElem hlt⟩
      have hu2 := injs_get hu
      refine AC_skip ?_
      refine hK9 _ _ _ ?_
      refine AC_seq fun K10 hK10 => ?_
      refine AC_block ?_
      refine AC_seq fun K11 hK11 => ?_
      refine AC_region ?_
      first | refine AL_ev (Ev_ix_sl rfl rfl te41 ts45 (by omega) (by assumption)) rfl ?_ | refine AL_ev (Ev_ix_ref rfl rfl te41 ts45 (by omega) (by first | omega | (simp; omega))) rfl ?_
      first | refine AL_ev (Ev_load_ptr rfl rfl rfl rfl rfl rfl ts45 ta45 (by first | rfl | simp) (by intro h; cases h)) rfl ?_ | refine AL_ev (Ev_load_rp rfl rfl rfl ts45 ta45 (by first | rfl | simp) (by intro h; cases h)) rfl ?_
      refine AL_alloc zo45 _ rfl rfl ?_
      first | refine AL_store rfl (nf rfl) rfl rfl rfl rfl rfl rfl (by first | rfl | simp [Lay.len, Lay.lens]) ts45 rfl rfl ?_ | refine AL_store rfl (nf rfl) rfl rfl rfl hes rfl rfl (by first | rfl | simp [Lay.len, Lay.lens]) ts45 rfl rfl ?_
      refine AL_nil ?_
      refine hK11 _ _ _ ?_
      refine AC_draw hT follows [0, 1, 2, 3, 4, 5, 6, 7, 8] (by kernel_rfl) ?_
      first | refine DT_ev rfl (EA_fa_ptr rfl fa45_3 rfl rfl) rfl ?_ | refine DT_ev rfl (EA_fa_rp rfl fa45_3 rfl rfl) rfl ?_
      first | refine DT_ev rfl (EA_load_ptr rfl rfl rfl rfl rfl rfl ts41 ta41 rfl (fun _ => rfl)) rfl ?_ | refine DT_ev rfl (EA_load_rp rfl rfl rfl ts41 ta41 rfl (fun _ => rfl)) rfl ?_
      first | refine DT_ev rfl (EA_load_ptr rfl rfl rfl rfl rfl rfl ts45 ta45 (by first | rfl | simp) (by intro h; cases h)) rfl ?_ | refine DT_ev rfl (EA_load_rp rfl rfl rfl ts45 ta45 (by first | rfl | simp) (by intro h; cases h)) rfl ?_
      refine DT_ev rfl (EA_move) rfl ?_
      refine DT_fcall0 rfl rfl cl101 (ih u (List.mem_of_getElem? hu)) rfl rfl ?_
      refine DT_bD (Lay.st [.one, .one, .one, .one]) rfl rfl te41 ts45 tz45 rfl rfl (by decide) (by decide) (by first | rfl | simp [lenDs, goodVs, goodV, V.known, Lay.len, Lay.lens]) rfl ?_
      first | refine DT_append_sl rfl rfl rfl rfl rfl te41 ts45 tz45 rfl tb45 (by decide) (by decide) rfl (by first | rfl | (simp; done) | (simp; omega)) (by simp only [lim]; first | omega | (simp; done) | (simp; omega)) _ rfl rfl ?_ | refine DT_append_nil rfl rfl rfl rfl rfl te41 ts45 tz45 rfl tb45 (by decide) (by decide) rfl (by first | rfl | (simp; done) | (simp; omega)) (by simp only [lim]; first | omega | (simp; done) | (simp; omega)) _ rfl rfl ?_
      first | refine DT_ev rfl (EA_fa_ptr rfl fa45_3 rfl rfl) rfl ?_ | refine DT_ev rfl (EA_fa_rp rfl fa45_3 rfl rfl) rfl ?_
      first | refine DT_store rfl rfl (nf rfl) rfl rfl rfl rfl rfl rfl (by first | rfl | simp [Lay.len, Lay.lens]) ts41 rfl rfl ?_ | refine DT_store rfl rfl (nf rfl) rfl rfl rfl hes rfl rfl (by first | rfl | simp [Lay.len, Lay.lens]) ts41 rfl rfl ?_
      refine DTi.nil ?_
      refine hK10 _ _ _ ?_
      refine AC_region ?_
      first | refine AL_ev (Ev_add rfl rfl _ (wrap_id (by first | omega | (simp; omega)) (by first | omega | (simp; omega)))) rfl ?_ | refine AL_ev (Ev_add rfl rfl _ rfl) rfl ?_
      refine AL_ev (Ev_move) rfl ?_
      refine AL_nil ?_
      refine closeS (j + 1) [some 0, some 1, some 2, some 5] rfl rfl (by show ks.length - (j + 1) < ks.length - j; omega) hlt (BxTo_some rfl rfl rfl rfl (.cons (.rd .d) .nil) (BxTo_some rfl rfl rfl rfl (.cons (.rd .d) .nil) (BxTo_some rfl rfl rfl rfl (.cons (.agg (.cons (.rd .d) (.cons (.rd .d) (.cons (.rd .d) (.cons (.ref rfl) .nil))))) .nil) (BxTo_some rfl rfl rfl rfl (VwL_app (by rw [rnL_map, rnL_map]; exact injs_take_map (rn g) hu)) BxTo_nil)))) (SlTo_cons (Vw_int (by omega)) (SlTo_cons (by first | exact .rd .d | exact .ptr rfl | exact .ref rfl | exact .any | exact Vw_int (by omega)) (SlTo_cons (by first | exact .rd .d | exact .ptr rfl | exact .ref rfl | exact .any | exact Vw_int (by omega)) (SlTo_cons (by first | exact .rd .d | exact .ptr rfl | exact .ref rfl | exact .any | exact Vw_int (by omega)) (SlTo_cons (by first | exact .rd .d | exact .ptr rfl | exact .ref rfl | exact .any | exact Vw_int (by omega)) (SlTo_cons (by first | exact .rd .d | exact .ptr rfl | exact .ref rfl | exact .any | exact Vw_int (by omega)) (SlTo_cons (by first | exact .rd .d | exact .ptr rfl | exact .ref rfl | exact .any | exact Vw_int (by omega)) SlTo_nil)))))))
    · skip
      refine AC_exit ?_
      refine hK6 _ _ _ ?_
      refine AC_seq fun K12 hK12 => ?_
      refine AC_region ?_
      first | refine AL_ev (Ev_load_ptr rfl rfl rfl rfl rfl rfl ts45 ta45 (by first | rfl | simp) (by intro h; cases h)) rfl ?_ | refine AL_ev (Ev_load_rp rfl rfl rfl ts45 ta45 (by first | rfl | simp) (by intro h; cases h)) rfl ?_
      first | refine AL_store rfl (nf rfl) rfl rfl rfl rfl rfl rfl (by first | rfl | simp [Lay.len, Lay.lens]) ts45 rfl rfl ?_ | refine AL_store rfl (nf rfl) rfl rfl rfl hes rfl rfl (by first | rfl | simp [Lay.len, Lay.lens]) ts45 rfl rfl ?_
      refine AL_nil ?_
      refine hK12 _ _ _ ?_
      refine AC_ret ?_
      have hj2 : j = ks.length := by
        have : ¬ j < ks.length := by simpa [injs_length] using hc2
        omega
      subst hj2
      subst hm2
      refine ret_ok hdm (.cell rfl rfl rfl rfl rfl rfl ts45 ta45 rfl (by intro h; cases h) .nil) (.cons (.agg (.cons .d (.cons .d (.cons .d (.cons (.ref trivial rfl rfl (by simp) (ReadsL_d _)) .nil))))) .nil) ?_
      rw [List.take_length]
      rfl

set_option maxHeartbeats 1000000 in
set_option maxRecDepth 4000 in
theorem c_toTermS (ks : List T) (ih : ∀ u ∈ ks, OCall Tryd.prog 26 [inj u] (inj u)) : OCall Tryd.prog 70 [.sl LT (injs ks)] (.sl LT (injs ks)) := by
  refine OCall_of (n := 23) Tryd.func70 rfl rfl (Nat.le_of_ble_eq_true rfl) fun C0 hdm hT0 => ?_
  have hX0 := CExt.refl C0
  have hT := hT0
  refine AC_seq fun K1 hK1 => ?_
  refine AC_region ?_
  refine AL_ev (Ev_assign) rfl ?_
  refine AL_nil ?_
  refine hK1 _ _ _ ?_
  refine AC_seq fun K2 hK2 => ?_
  refine AC_region ?_
  refine AL_ev (Ev_move) rfl ?_
  first | refine AL_lim (x := (Operand.tmp 5)) rfl fun hl1 => ?_ | refine AL_limB (x := (Operand.tmp 5)) rfl rfl (by first | rfl | (simp; done) | (simp; omega)) fun hl1 => ?_ | have hl1 := True.intro
  try simp only [injs_length, ints_length, strs_length, injCs_length, List.length_map] at hl1
  first | refine AL_ev (Ev_len_injs te37 rfl) rfl ?_ | refine AL_ev (Ev_len_sl te37 rfl) rfl ?_ | refine AL_ev (Ev_len_ref te37 rfl) rfl ?_ | refine AL_ev (Ev_len_nil te37 rfl) rfl ?_ | refine AL_ev (Ev_len_c te37 rfl) rfl ?_
  refine AL_makeSlice (Lay.st [.one, .one, .one, .one]) te41 ts45 zo45 tb45 rfl (by simp only [lim]; first | omega | (simp; done) | (simp; omega)) (by first | omega | (simp; omega)) (by decide) _ rfl rfl ?_
  refine AL_ev (Ev_assign) rfl ?_
  refine AL_nil ?_
  refine hK2 _ _ _ ?_
  refine AC_seq fun K3 hK3 => ?_
  refine AC_seq fun K4 hK4 => ?_
  refine AC_region ?_
  refine AL_ev (Ev_assign) rfl ?_
  refine AL_nil ?_
  refine hK4 _ _ _ ?_
  refine AC_block ?_
  refine AC_loopX (List (List Value) × List Nat) (fun st => [(4, i64 st.1.length)]) (fun st => [some ⟨45, LT, st.1.map (rawV LT) ++ List.replicate (ks.length - st.1.length) (V.d zT)⟩]) (fun st => ks.length - st.1.length) (fun C st => st.1.length ≤ ks.length ∧ CExt C0 C ∧ HasL C0.w0.heap.size C LT st.1 (injs (ks.take st.1.length)) st.2) [0, 3] ?_ ?_
  · skip
    exact enterX ([], []) [some 0] rfl rfl ⟨Nat.zero_le _, hX0, HasL.nil⟩ (BxTo_some rfl rfl rfl rfl (VwL_fill (css' := []) (by simp [zT])) BxTo_nil) (SlTo_cons (by first | exact .rd .d | exact .ptr rfl | exact .ref rfl | exact .any | exact Vw_int (by omega)) (SlTo_cons (by first | exact .rd .d | exact .ptr rfl | exact .ref rfl | exact .any | exact Vw_int (by omega)) (SlTo_cons (by first | exact .rd .d | exact .ptr rfl | exact .ref rfl | exact .any | exact Vw_int (by omega)) SlTo_nil)))
  rintro CL st ⟨hj, hX, hL⟩
  have hT := hT0.ext hX
  refine AC_seq fun K5 hK5 => ?_
  refine AC_seq fun K6 hK6 => ?_
  refine AC_region ?_
  refine AL_ev (Ev_move) rfl ?_
  refine AL_ev (Ev_move) rfl ?_
  first | refine AL_lim (x := (Operand.tmp 9)) rfl fun hl2 => ?_ | refine AL_limB (x := (Operand.tmp 9)) rfl rfl (by first | rfl | (simp; done) | (simp; omega)) fun hl2 => ?_ | have hl2 := True.intro
  try simp only [injs_length, ints_length, strs_length, injCs_length, List.length_map] at hl2
  first | refine AL_ev (Ev_len_injs te37 rfl) rfl ?_ | refine AL_ev (Ev_len_sl te37 rfl) rfl ?_ | refine AL_ev (Ev_len_ref te37 rfl) rfl ?_ | refine AL_ev (Ev_len_nil te37 rfl) rfl ?_ | refine AL_ev (Ev_len_c te37 rfl) rfl ?_
  refine AL_ev (Ev_lss rfl rfl) rfl ?_
  refine AL_nil ?_
  refine hK6 _ _ _ ?_
  refine AC_cond rfl (fun hc1 => ?_) (fun hc1 => ?_)
  · skip
    have hlt : st.1.length < ks.length := by simpa [injs_length] using hc1
    obtain ⟨u, hu⟩ : ∃ u, ks[st.1.length]? = some u := ⟨_, List.getElem?_eq_getElem hlt⟩
    have hu2 := injs_get hu
    refine AC_skip ?_
    refine hK5 _ _ _ ?_
    refine AC_seq fun K7 hK7 => ?_
    refine AC_block ?_
    refine AC_region ?_
    refine AL_ev (Ev_move) rfl ?_
    refine AL_ev (Ev_move) rfl ?_
    refine AL_ev (Ev_move) rfl ?_
    refine AL_ev (Ev_move) rfl ?_
    first | refine AL_ev (Ev_ix_sl rfl rfl te37 ts39 (by omega) (by assumption)) rfl ?_ | refine AL_ev (Ev_ix_ref rfl rfl te37 ts39 (by omega) (by first | omega | (simp; omega))) rfl ?_
    first | refine AL_ev (Ev_load_ptr rfl rfl rfl rfl rfl rfl ts39 ta39 (by first | rfl | simp) (by intro h; cases h)) rfl ?_ | refine AL_ev (Ev_load_rp rfl rfl rfl ts39 ta39 (by first | rfl | simp) (by intro h; cases h)) rfl ?_
    refine AL_ocall0 hT LT rfl cl26 (ih u (List.mem_of_getElem? hu)) rfl (inj_lenL _) (inj_agL _) rfl fun C1 cs1 K1 hg1 => ?_
    have hX1 := hX.trans hg1.ext
    have hT := hT.ext hg1.ext
    have hes := fill_get (l := LT) (z := zT) st.1 ks.length hlt
    first | refine AL_ev (Ev_ix_sl rfl rfl te41 ts45 (by omega) (by assumption)) rfl ?_ | refine AL_ev (Ev_ix_ref rfl rfl te41 ts45 (by omega) (by first | omega | (simp; omega))) rfl ?_
    first | refine AL_store rfl (nf rfl) rfl rfl rfl rfl rfl rfl (by first | rfl | simp [Lay.len, Lay.lens]) ts45 rfl rfl ?_ | refine AL_store rfl (nf rfl) rfl rfl rfl hes rfl rfl (by first | rfl | simp [Lay.len, Lay.lens]) ts45 rfl rfl ?_
    refine AL_nil ?_
    refine hK7 _ _ _ ?_
    refine AC_region ?_
    refine AL_ev (Ev_move) rfl ?_
    first | refine AL_ev (Ev_add rfl rfl _ (wrap_id (by first | omega | (simp; omega)) (by first | omega | (simp; omega)))) rfl ?_ | refine AL_ev (Ev_add rfl rfl _ rfl) rfl ?_
    refine AL_ev (Ev_assign) rfl ?_
    refine AL_nil ?_
    have hst2 : (st.1 ++ [cs1]).length = st.1.length + 1 := by simp
    refine closeX (st.1 ++ [cs1], st.2 ++ K1) [some 0] rfl rfl (by show ks.length - (st.1 ++ [cs1]).length < ks.length - st.1.length; omega) ⟨by show (st.1 ++ [cs1]).length ≤ _; omega, hX1, ?_⟩ (BxTo_some rfl rfl rfl rfl (VwL_fill (fill_set st.1 ks.length hlt cs1)) BxTo_nil) (SlTo_cons (Vw_int (by show _ = (((st.1 ++ [cs1]).length : Nat) : Int); rw [hst2]; omega)) (SlTo_cons (by first | exact .rd .d | exact .ptr rfl | exact .ref rfl | exact .any | exact Vw_int (by omega)) (SlTo_cons (by first | exact .rd .d | exact .ptr rfl | exact .ref rfl | exact .any | exact Vw_int (by omega)) SlTo_nil)))
    show HasL _ _ _ (st.1 ++ [cs1]) (injs (ks.take (st.1 ++ [cs1]).length)) _
    rw [hst2, injs_take_get hu]
    exact hL.snoc hg1.ext hg1.has hX.pres.size (inj_lenL u)
  · skip
    refine AC_exit ?_
    refine hK3 _ _ _ ?_
    refine AC_seq fun K8 hK8 => ?_
    refine AC_region ?_
    refine AL_ev (Ev_move) rfl ?_
    refine AL_ev (Ev_assign) rfl ?_
    refine AL_nil ?_
    refine hK8 _ _ _ ?_
    refine AC_ret ?_
    have hj2 : st.1.length = ks.length := by
      have : ¬ st.1.length < ks.length := by simpa [injs_length] using hc1
      omega
    rw [← hj2, fill_done]
    rw [hj2, List.take_length] at hL
    refine reto_ok hX hdm (.tmp rfl rfl .nil) (.ref rfl rfl (by first | omega | (simp; done) | (simp; omega)) (OwVs_raws hL (by first | omega | (simp; done) | (simp; omega))) (by simp)) rfl rfl

set_option maxHeartbeats 1000000 in
set_option maxRecDepth 4000 in
theorem c_toTerm (t : T) : OCall Tryd.prog 26 [inj t] (inj t) := by
  induction t using T.ind with | h k s m ks ih => ?_
  refine OCall_of (n := 18) Tryd.func26 rfl rfl (Nat.le_of_ble_eq_true rfl) fun C0 hdm hT0 => ?_
  have hX0 := CExt.refl C0
  have hT := hT0
  refine AC_seq fun K1 hK1 => ?_
  refine AC_region ?_
  refine AL_box (Lay.st [.one, .one, .one, .one]) (nf rfl) rfl (by first | rfl | simp [Lay.len, Lay.lens]) _ rfl rfl ?_
  refine AL_alloc zo45 _ rfl rfl ?_
  refine AL_nil ?_
  refine hK1 _ _ _ ?_
  refine AC_seq fun K2 hK2 => ?_
  refine AC_region ?_
  refine AL_alloc zo45 _ rfl rfl ?_
  refine AL_nil ?_
  refine hK2 _ _ _ ?_
  refine AC_seq fun K3 hK3 => ?_
  refine AC_region ?_
  first | refine AL_ev (Ev_fa_ptr rfl fa39_0 rfl rfl) rfl ?_ | refine AL_ev (Ev_fa_rp rfl fa39_0 rfl rfl) rfl ?_
  first | refine AL_ev (Ev_load_ptr rfl rfl rfl rfl rfl rfl ts3 ta3 rfl (fun _ => rfl)) rfl ?_ | refine AL_ev (Ev_load_rp rfl rfl rfl ts3 ta3 rfl (fun _ => rfl)) rfl ?_
  first | refine AL_ev (Ev_fa_ptr rfl fa45_0 rfl rfl) rfl ?_ | refine AL_ev (Ev_fa_rp rfl fa45_0 rfl rfl) rfl ?_
  first | refine AL_store rfl (nf rfl) rfl rfl rfl rfl rfl rfl (by first | rfl | simp [Lay.len, Lay.lens]) ts3 rfl rfl ?_ | refine AL_store rfl (nf rfl) rfl rfl rfl hes rfl rfl (by first | rfl | simp [Lay.len, Lay.lens]) ts3 rfl rfl ?_
  refine AL_nil ?_
  refine hK3 _ _ _ ?_
  refine AC_seq fun K4 hK4 => ?_
  refine AC_region ?_
  first | refine AL_ev (Ev_fa_ptr rfl fa39_1 rfl rfl) rfl ?_ | refine AL_ev (Ev_fa_rp rfl fa39_1 rfl rfl) rfl ?_
  first | refine AL_ev (Ev_load_ptr rfl rfl rfl rfl rfl rfl ts9 ta9 rfl (fun _ => rfl)) rfl ?_ | refine AL_ev (Ev_load_rp rfl rfl rfl ts9 ta9 rfl (fun _ => rfl)) rfl ?_
  first | refine AL_ev (Ev_fa_ptr rfl fa45_1 rfl rfl) rfl ?_ | refine AL_ev (Ev_fa_rp rfl fa45_1 rfl rfl) rfl ?_
  first | refine AL_store rfl (nf rfl) rfl rfl rfl rfl rfl rfl (by first | rfl | simp [Lay.len, Lay.lens]) ts9 rfl rfl ?_ | refine AL_store rfl (nf rfl) rfl rfl rfl hes rfl rfl (by first | rfl | simp [Lay.len, Lay.lens]) ts9 rfl rfl ?_
  refine AL_nil ?_
  refine hK4 _ _ _ ?_
  refine AC_seq fun K5 hK5 => ?_
  refine AC_region ?_
  first | refine AL_ev (Ev_fa_ptr rfl fa39_2 rfl rfl) rfl ?_ | refine AL_ev (Ev_fa_rp rfl fa39_2 rfl rfl) rfl ?_
  first | refine AL_ev (Ev_load_ptr rfl rfl rfl rfl rfl rfl ts3 ta3 rfl (fun _ => rfl)) rfl ?_ | refine AL_ev (Ev_load_rp rfl rfl rfl ts3 ta3 rfl (fun _ => rfl)) rfl ?_
  first | refine AL_ev (Ev_fa_ptr rfl fa45_2 rfl rfl) rfl ?_ | refine AL_ev (Ev_fa_rp rfl fa45_2 rfl rfl) rfl ?_
  first | refine AL_store rfl (nf rfl) rfl rfl rfl rfl rfl rfl (by first | rfl | simp [Lay.len, Lay.lens]) ts3 rfl rfl ?_ | refine AL_store rfl (nf rfl) rfl rfl rfl hes rfl rfl (by first | rfl | simp [Lay.len, Lay.lens]) ts3 rfl rfl ?_
  refine AL_nil ?_
  refine hK5 _ _ _ ?_
  refine AC_seq fun K6 hK6 => ?_
  refine AC_region ?_
  first | refine AL_ev (Ev_fa_ptr rfl fa39_3 rfl rfl) rfl ?_ | refine AL_ev (Ev_fa_rp rfl fa39_3 rfl rfl) rfl ?_
  first | refine AL_ev (Ev_load_ptr rfl rfl rfl rfl rfl rfl ts37 ta37 rfl (fun _ => rfl)) rfl ?_ | refine AL_ev (Ev_load_rp rfl rfl rfl ts37 ta37 rfl (fun _ => rfl)) rfl ?_
  refine AL_ocall0 hT .one rfl cl70 (c_toTermS ks ih) rfl rfl rfl rfl fun C1 cs1 K1 hg1 => ?_
  have hX1 := hX0.trans hg1.ext
  have hT := hT.ext hg1.ext
  obtain ⟨A1, rfl⟩ := one_cell_of hg1.has
  first | refine AL_ev (Ev_fa_ptr rfl fa45_3 rfl rfl) rfl ?_ | refine AL_ev (Ev_fa_rp rfl fa45_3 rfl rfl) rfl ?_
  first | refine AL_store rfl (nf rfl) rfl rfl rfl rfl rfl rfl (by first | rfl | simp [Lay.len, Lay.lens]) ts41 rfl rfl ?_ | refine AL_store rfl (nf rfl) rfl rfl rfl hes rfl rfl (by first | rfl | simp [Lay.len, Lay.lens]) ts41 rfl rfl ?_
  refine AL_nil ?_
  refine hK6 _ _ _ ?_
  refine AC_seq fun K7 hK7 => ?_
  refine AC_region ?_
  first | refine AL_ev (Ev_load_ptr rfl rfl rfl rfl rfl rfl ts45 ta45 (by first | rfl | simp) (by intro h; cases h)) rfl ?_ | refine AL_ev (Ev_load_rp rfl rfl rfl ts45 ta45 (by first | rfl | simp) (by intro h; cases h)) rfl ?_
  first | refine AL_store rfl (nf rfl) rfl rfl rfl rfl rfl rfl (by first | rfl | simp [Lay.len, Lay.lens]) ts45 rfl rfl ?_ | refine AL_store rfl (nf rfl) rfl rfl rfl hes rfl rfl (by first | rfl | simp [Lay.len, Lay.lens]) ts45 rfl rfl ?_
  refine AL_nil ?_
  refine hK7 _ _ _ ?_
  refine AC_ret ?_
  exact reto_ok hX1 hdm (.cell rfl rfl rfl rfl rfl rfl ts45 ta45 rfl (by intro h; cases h) .nil) (ow_T (hg1.has.le hX0.pres.size)) rfl rfl

set_option maxHeartbeats 1000000 in
set_option maxRecDepth 4000 in
theorem c_id (m : Int) : PCall Tryd.prog 102 [.c (.int .i64 m)] (· = [.c (.int .i64 m)]) := by
  refine PCall_of (n := 4) Tryd.func102 rfl rfl (Nat.le_of_ble_eq_true rfl) fun C hdm hT0 => ?_
  have hT := hT0
  refine AC_seq fun K1 hK1 => ?_
  refine AC_region ?_
  refine AL_ev (Ev_assign) rfl ?_
  refine AL_nil ?_
  refine hK1 _ _ _ ?_
  refine AC_seq fun K2 hK2 => ?_
  refine AC_region ?_
  refine AL_ev (Ev_move) rfl ?_
  refine AL_ev (Ev_assign) rfl ?_
  refine AL_nil ?_
  refine hK2 _ _ _ ?_
  refine AC_ret ?_
  exact ret_ok hdm (.tmp rfl rfl .nil) (.cons .d .nil) rfl

set_option maxHeartbeats 1000000 in
set_option maxRecDepth 4000 in
theorem c_copyTerm (t : T) : PCall Tryd.prog 73 [inj t] (· = [inj t]) := by
  refine PCall_of (n := 5) Tryd.func73 rfl rfl (Nat.le_of_ble_eq_true rfl) fun C hdm hT0 => ?_
  have hT := hT0
  refine AC_seq fun K1 hK1 => ?_
  refine AC_region ?_
  refine AL_box (Lay.st [.one, .one, .one, .one]) (nf rfl) rfl (by first | rfl | simp [Lay.len, Lay.lens]) _ rfl rfl ?_
  refine AL_alloc zo45 _ rfl rfl ?_
  refine AL_nil ?_
  refine hK1 _ _ _ ?_
  refine AC_seq fun K2 hK2 => ?_
  refine AC_region ?_
  first | refine AL_ev (Ev_load_ptr rfl rfl rfl rfl rfl rfl ts45 ta45 (by first | rfl | simp) (by intro h; cases h)) rfl ?_ | refine AL_ev (Ev_load_rp rfl rfl rfl ts45 ta45 (by first | rfl | simp) (by intro h; cases h)) rfl ?_
  refine AL_fcall0 hT rfl cl101 (c_renamed id 102 [] cl102 rfl (fun m => c_id m) t) rfl rfl ?_
  first | refine AL_store rfl (nf rfl) rfl rfl rfl rfl rfl rfl (by first | rfl | simp [Lay.len, Lay.lens]) ts45 rfl rfl ?_ | refine AL_store rfl (nf rfl) rfl rfl rfl hes rfl rfl (by first | rfl | simp [Lay.len, Lay.lens]) ts45 rfl rfl ?_
  refine AL_nil ?_
  refine hK2 _ _ _ ?_
  refine AC_ret ?_
  exact ret_ok hdm (.cell rfl rfl rfl rfl rfl rfl ts45 ta45 (by simp) (by intro h; cases h) .nil) (.cons .d .nil) (by rw [rn_id])

set_option maxHeartbeats 1000000 in
set_option maxRecDepth 4000 in
theorem c_l34Terms (ks : List T) (ih : ∀ u ∈ ks, PCall Tryd.prog 99 [inj u] (· = [inj u])) : PCall Tryd.prog 69 [.sl LT (injs ks)] (· = [.sl LT (injs ks)]) := by
  refine PCall_of (n := 21) Tryd.func69 rfl rfl (Nat.le_of_ble_eq_true rfl) fun C hdm hT0 => ?_
  have hT := hT0
  refine AC_seq fun K1 hK1 => ?_
  refine AC_region ?_
  refine AL_ev (Ev_assign) rfl ?_
  refine AL_nil ?_
  refine hK1 _ _ _ ?_
  refine AC_seq fun K2 hK2 => ?_
  refine AC_region ?_
  refine AL_bV (Lay.st [.one, .one, .one, .one]) rfl te41 ts45 tz45 rfl rfl (by decide) (by decide) (by first | rfl | simp [lenDs, goodVs, goodV, V.known, Lay.len, Lay.lens]) _ rfl rfl ?_
  refine AL_ev (Ev_assign) rfl ?_
  refine AL_nil ?_
  refine hK2 _ _ _ ?_
  refine AC_seq fun K3 hK3 => ?_
  refine AC_seq fun K4 hK4 => ?_
  refine AC_region ?_
  refine AL_ev (Ev_assign) rfl ?_
  refine AL_nil ?_
  refine hK4 _ _ _ ?_
  refine AC_block ?_
  refine AC_loopS [0] (Nat) (fun j => [(3, .ref LT 0 0 j), (4, i64 j)]) (fun j => [some ⟨45, LT, (injs (ks.take j)).map V.d⟩]) (fun j => ks.length - j) (fun j => j ≤ ks.length) (0) ?_ ?_ ?_
  · skip
    exact enterS [some 0] rfl rfl (BxTo_some rfl rfl rfl rfl .nil BxTo_nil) (SlTo_cons (by first | exact .rd .d | exact .ptr rfl | exact .ref rfl | exact .any | exact Vw_int (by omega)) (SlTo_cons (by first | exact .rd .d | exact .ptr rfl | exact .ref rfl | exact .any | exact Vw_int (by omega)) (SlTo_cons (by first | exact .rd .d | exact .ptr rfl | exact .ref rfl | exact .any | exact Vw_int (by omega)) SlTo_nil)))
  · skip
    exact Nat.zero_le _
  intro j hj
  refine AC_seq fun K5 hK5 => ?_
  refine AC_seq fun K6 hK6 => ?_
  refine AC_region ?_
  refine AL_ev (Ev_move) rfl ?_
  refine AL_ev (Ev_move) rfl ?_
  first | refine AL_lim (x := (Operand.tmp 7)) rfl fun hl1 => ?_ | refine AL_limB (x := (Operand.tmp 7)) rfl rfl (by first | rfl | (simp; done) | (simp; omega)) fun hl1 => ?_ | have hl1 := True.intro
  try simp only [injs_length, ints_length, strs_length, injCs_length, List.length_map] at hl1
  first | refine AL_ev (Ev_len_injs te41 rfl) rfl ?_ | refine AL_ev (Ev_len_sl te41 rfl) rfl ?_ | refine AL_ev (Ev_len_ref te41 rfl) rfl ?_ | refine AL_ev (Ev_len_nil te41 rfl) rfl ?_ | refine AL_ev (Ev_len_c te41 rfl) rfl ?_
  refine AL_ev (Ev_lss rfl rfl) rfl ?_
  refine AL_nil ?_
  refine hK6 _ _ _ ?_
  refine AC_cond rfl (fun hc1 => ?_) (fun hc1 => ?_)
  · skip
    have hlt : j < ks.length := by simpa [injs_length] using hc1
    obtain ⟨u, hu⟩ : ∃ u, ks[j]? = some u := ⟨_, List.getElem?_eq_getElem hlt⟩
    have hu2 := injs_get hu
    refine AC_skip ?_
    refine hK5 _ _ _ ?_
    refine AC_seq fun K7 hK7 => ?_
    refine AC_block ?_
    refine AC_region ?_
    refine AL_ev (Ev_move) rfl ?_
    refine AL_ev (Ev_move) rfl ?_
    refine AL_ev (Ev_move) rfl ?_
    first | refine AL_ev (Ev_ix_sl rfl rfl te41 ts45 (by omega) (by assumption)) rfl ?_ | refine AL_ev (Ev_ix_ref rfl rfl te41 ts45 (by omega) (by first | omega | (simp; omega))) rfl ?_
    first | refine AL_ev (Ev_load_ptr rfl rfl rfl rfl rfl rfl ts45 ta45 (by first | rfl | simp) (by intro h; cases h)) rfl ?_ | refine AL_ev (Ev_load_rp rfl rfl rfl ts45 ta45 (by first | rfl | simp) (by intro h; cases h)) rfl ?_
    refine AL_fcall0 hT rfl cl99 (ih u (List.mem_of_getElem? hu)) rfl rfl ?_
    first | refine AL_bD (Lay.st [.one, .one, .one, .one]) rfl te41 ts45 tz45 rfl rfl (by decide) (by decide) (by first | rfl | simp [lenDs, goodVs, goodV, V.known, Lay.len, Lay.lens]) rfl ?_ | refine AL_bV (Lay.st [.one, .one, .one, .one]) rfl te41 ts45 tz45 rfl rfl (by decide) (by decide) (by first | rfl | simp [lenDs, goodVs, goodV, V.known, Lay.len, Lay.lens]) _ rfl rfl ?_
    first | refine AL_append rfl rfl rfl te41 ts45 tz45 rfl tb45 (by decide) (by decide) rfl (by first | rfl | (simp; done) | (simp; omega)) (Src_sl rfl) (by simp only [lim]; first | omega | (simp; done) | (simp; omega)) _ rfl rfl ?_ | refine AL_append rfl rfl rfl te41 ts45 tz45 rfl tb45 (by decide) (by decide) rfl (by first | rfl | (simp; done) | (simp; omega)) (Src_ref rfl rfl rfl (by first | rfl | (simp; done) | (simp; omega))) (by simp only [lim]; first | omega | (simp; done) | (simp; omega)) _ rfl rfl ?_ | refine AL_append rfl rfl rfl te41 ts45 tz45 rfl tb45 (by decide) (by decide) rfl (by first | rfl | (simp; done) | (simp; omega)) (Src_nil rfl) (by simp only [lim]; first | omega | (simp; done) | (simp; omega)) _ rfl rfl ?_
    refine AL_ev (Ev_assign) rfl ?_
    refine AL_nil ?_
    refine hK7 _ _ _ ?_
    refine AC_region ?_
    refine AL_ev (Ev_move) rfl ?_
    first | refine AL_ev (Ev_add rfl rfl _ (wrap_id (by first | omega | (simp; omega)) (by first | omega | (simp; omega)))) rfl ?_ | refine AL_ev (Ev_add rfl rfl _ rfl) rfl ?_
    refine AL_ev (Ev_assign) rfl ?_
    refine AL_nil ?_
    refine closeS (j + 1) [some 1] rfl rfl (by show ks.length - (j + 1) < ks.length - j; omega) hlt (BxTo_some rfl rfl rfl rfl (VwL_app (by rw [injs_take_get hu])) BxTo_nil) (SlTo_cons (Vw_refe rfl (by simp)) (SlTo_cons (Vw_int (by omega)) (SlTo_cons (by first | exact .rd .d | exact .ptr rfl | exact .ref rfl | exact .any | exact Vw_int (by omega)) SlTo_nil)))
  · skip
    refine AC_exit ?_
    refine hK3 _ _ _ ?_
    refine AC_seq fun K8 hK8 => ?_
    refine AC_region ?_
    refine AL_ev (Ev_move) rfl ?_
    refine AL_ev (Ev_assign) rfl ?_
    refine AL_nil ?_
    refine hK8 _ _ _ ?_
    refine AC_ret ?_
    have hj2 : j = ks.length := by
      have : ¬ j < ks.length := by simpa [injs_length] using hc1
      omega
    subst hj2
    refine ret_ok hdm (.tmp rfl rfl .nil) (.cons (.ref trivial rfl rfl (by simp) (ReadsL_d _)) .nil) (by rw [List.take_length])

set_option maxHeartbeats 1000000 in
set_option maxRecDepth 4000 in
theorem c_l34Term (t : T) : PCall Tryd.prog 99 [inj t] (· = [inj t]) := by
  induction t using T.ind with | h k s m ks ih => ?_
  refine PCall_of (n := 8) Tryd.func99 rfl rfl (Nat.le_of_ble_eq_true rfl) fun C hdm hT0 => ?_
  have hT := hT0
  refine AC_seq fun K1 hK1 => ?_
  refine AC_region ?_
  refine AL_box (Lay.st [.one, .one, .one, .one]) (nf rfl) rfl (by first | rfl | simp [Lay.len, Lay.lens]) _ rfl rfl ?_
  refine AL_alloc zo45 _ rfl rfl ?_
  refine AL_nil ?_
  refine hK1 _ _ _ ?_
  refine AC_seq fun K2 hK2 => ?_
  refine AC_region ?_
  first | refine AL_ev (Ev_fa_ptr rfl fa45_3 rfl rfl) rfl ?_ | refine AL_ev (Ev_fa_rp rfl fa45_3 rfl rfl) rfl ?_
  first | refine AL_ev (Ev_load_ptr rfl rfl rfl rfl rfl rfl ts41 ta41 rfl (fun _ => rfl)) rfl ?_ | refine AL_ev (Ev_load_rp rfl rfl rfl ts41 ta41 rfl (fun _ => rfl)) rfl ?_
  refine AL_fcall0 hT rfl cl69 (c_l34Terms ks ih) rfl rfl ?_
  first | refine AL_ev (Ev_fa_ptr rfl fa45_3 rfl rfl) rfl ?_ | refine AL_ev (Ev_fa_rp rfl fa45_3 rfl rfl) rfl ?_
  first | refine AL_store rfl (nf rfl) rfl rfl rfl rfl rfl rfl (by first | rfl | simp [Lay.len, Lay.lens]) ts41 rfl rfl ?_ | refine AL_store rfl (nf rfl) rfl rfl rfl hes rfl rfl (by first | rfl | simp [Lay.len, Lay.lens]) ts41 rfl rfl ?_
  refine AL_nil ?_
  refine hK2 _ _ _ ?_
  refine AC_seq fun K3 hK3 => ?_
  refine AC_region ?_
  first | refine AL_ev (Ev_load_ptr rfl rfl rfl rfl rfl rfl ts45 ta45 (by first | rfl | simp) (by intro h; cases h)) rfl ?_ | refine AL_ev (Ev_load_rp rfl rfl rfl ts45 ta45 (by first | rfl | simp) (by intro h; cases h)) rfl ?_
  first | refine AL_store rfl (nf rfl) rfl rfl rfl rfl rfl rfl (by first | rfl | simp [Lay.len, Lay.lens]) ts45 rfl rfl ?_ | refine AL_store rfl (nf rfl) rfl rfl rfl hes rfl rfl (by first | rfl | simp [Lay.len, Lay.lens]) ts45 rfl rfl ?_
  refine AL_nil ?_
  refine hK3 _ _ _ ?_
  refine AC_ret ?_
  exact ret_ok hdm (.cell rfl rfl rfl rfl rfl rfl ts45 ta45 rfl (by intro h; cases h) .nil) (.cons (by first | exact .d | exact .agg (.cons .d (.cons .d (.cons .d (.cons .d .nil))))) .nil) rfl

set_option maxHeartbeats 1000000 in
set_option maxRecDepth 4000 in
theorem c_eqTermS (ks : List T) (ih : ∀ u ∈ ks, PCall Tryd.prog 29 [inj u, inj u] (· = [.c (.bool true)])) : PCall Tryd.prog 28 [.sl LT (injs ks), .sl LT (injs ks)] (· = [.c (.bool true)]) := by
  refine PCall_of (n := 27) Tryd.func28 rfl rfl (Nat.le_of_ble_eq_true rfl) fun C hdm hT0 => ?_
  have hT := hT0
  refine AC_seq fun K1 hK1 => ?_
  refine AC_region ?_
  refine AL_ev (Ev_assign) rfl ?_
  refine AL_nil ?_
  refine hK1 _ _ _ ?_
  refine AC_seq fun K2 hK2 => ?_
  refine AC_seq fun K3 hK3 => ?_
  refine AC_region ?_
  refine AL_ev (Ev_move) rfl ?_
  first | refine AL_lim (x := (Operand.tmp 6)) rfl fun hl1 => ?_ | refine AL_limB (x := (Operand.tmp 6)) rfl rfl (by first | rfl | (simp; done) | (simp; omega)) fun hl1 => ?_ | have hl1 := True.intro
  try simp only [injs_length, ints_length, strs_length, injCs_length, List.length_map] at hl1
  first | refine AL_ev (Ev_len_injs te41 rfl) rfl ?_ | refine AL_ev (Ev_len_sl te41 rfl) rfl ?_ | refine AL_ev (Ev_len_ref te41 rfl) rfl ?_ | refine AL_ev (Ev_len_nil te41 rfl) rfl ?_ | refine AL_ev (Ev_len_c te41 rfl) rfl ?_
  refine AL_ev (Ev_move) rfl ?_
  first | refine AL_lim (x := (Operand.tmp 8)) rfl fun hl2 => ?_ | refine AL_limB (x := (Operand.tmp 8)) rfl rfl (by first | rfl | (simp; done) | (simp; omega)) fun hl2 => ?_ | have hl2 := True.intro
  try simp only [injs_length, ints_length, strs_length, injCs_length, List.length_map] at hl2
  first | refine AL_ev (Ev_len_injs te41 rfl) rfl ?_ | refine AL_ev (Ev_len_sl te41 rfl) rfl ?_ | refine AL_ev (Ev_len_ref te41 rfl) rfl ?_ | refine AL_ev (Ev_len_nil te41 rfl) rfl ?_ | refine AL_ev (Ev_len_c te41 rfl) rfl ?_
  refine AL_ev (Ev_neq rfl rfl) rfl ?_
  refine AL_nil ?_
  refine hK3 _ _ _ ?_
  refine AC_cond rfl (fun hc1 => ?_) (fun hc1 => ?_)
  · skip
    exact absurd hc1 (by simp)
  · skip
    refine AC_skip ?_
    refine hK2 _ _ _ ?_
    refine AC_seq fun K4 hK4 => ?_
    refine AC_seq fun K5 hK5 => ?_
    refine AC_region ?_
    refine AL_ev (Ev_assign) rfl ?_
    refine AL_nil ?_
    refine hK5 _ _ _ ?_
    refine AC_block ?_
    refine AC_loopS [0, 1] (Nat) (fun j => [(5, i64 j)]) (fun j => []) (fun j => ks.length - j) (fun j => j ≤ ks.length) (0) ?_ ?_ ?_
    · skip
      exact enterS [] rfl rfl BxTo_nil (SlTo_cons (by first | exact .rd .d | exact .ptr rfl | exact .ref rfl | exact .any | exact Vw_int (by omega)) (SlTo_cons (by first | exact .rd .d | exact .ptr rfl | exact .ref rfl | exact .any | exact Vw_int (by omega)) (SlTo_cons (by first | exact .rd .d | exact .ptr rfl | exact .ref rfl | exact .any | exact Vw_int (by omega)) SlTo_nil)))
    · skip
      exact Nat.zero_le _
    intro j hj
    refine AC_seq fun K6 hK6 => ?_
    refine AC_seq fun K7 hK7 => ?_
    refine AC_region ?_
    refine AL_ev (Ev_move) rfl ?_
    refine AL_ev (Ev_move) rfl ?_
    first | refine AL_lim (x := (Operand.tmp 12)) rfl fun hl3 => ?_ | refine AL_limB (x := (Operand.tmp 12)) rfl rfl (by first | rfl | (simp; done) | (simp; omega)) fun hl3 => ?_ | have hl3 := True.intro
    try simp only [injs_length, ints_length, strs_length, injCs_length, List.length_map] at hl3
    first | refine AL_ev (Ev_len_injs te41 rfl) rfl ?_ | refine AL_ev (Ev_len_sl te41 rfl) rfl ?_ | refine AL_ev (Ev_len_ref te41 rfl) rfl ?_ | refine AL_ev (Ev_len_nil te41 rfl) rfl ?_ | refine AL_ev (Ev_len_c te41 rfl) rfl ?_
    refine AL_ev (Ev_lss rfl rfl) rfl ?_
    refine AL_nil ?_
    refine hK7 _ _ _ ?_
    refine AC_cond rfl (fun hc2 => ?_) (fun hc2 => ?_)
    · skip
      have hlt : j < ks.length := by simpa using hc2
      obtain ⟨u, hu⟩ : ∃ u, ks[j]? = some u := ⟨_, List.getElem?_eq_getElem hlt⟩
      have hu2 := injs_get hu
      refine AC_skip ?_
      refine hK6 _ _ _ ?_
      refine AC_seq fun K8 hK8 => ?_
      refine AC_block ?_
      refine AC_seq fun K9 hK9 => ?_
      refine AC_draw hT follows [0, 1, 2, 3, 4, 5, 6, 7, 8, 9] (by kernel_rfl) ?_
      refine DT_ev rfl (EA_move) rfl ?_
      refine DT_ev rfl (EA_move) rfl ?_
      first | refine DT_ev rfl (EA_ix_sl rfl rfl te41 ts45 (by omega) (by assumption)) rfl ?_ | refine DT_ev rfl (EA_ix_ref rfl rfl te41 ts45 (by omega) (by first | omega | (simp; omega))) rfl ?_
      first | refine DT_ev rfl (EA_load_ptr rfl rfl rfl rfl rfl rfl ts45 ta45 (by first | rfl | simp) (by intro h; cases h)) rfl ?_ | refine DT_ev rfl (EA_load_rp rfl rfl rfl ts45 ta45 (by first | rfl | simp) (by intro h; cases h)) rfl ?_
      refine DT_ev rfl (EA_move) rfl ?_
      refine DT_ev rfl (EA_move) rfl ?_
      first | refine DT_ev rfl (EA_ix_sl rfl rfl te41 ts45 (by omega) (by assumption)) rfl ?_ | refine DT_ev rfl (EA_ix_ref rfl rfl te41 ts45 (by omega) (by first | omega | (simp; omega))) rfl ?_
      first | refine DT_ev rfl (EA_load_ptr rfl rfl rfl rfl rfl rfl ts45 ta45 (by first | rfl | simp) (by intro h; cases h)) rfl ?_ | refine DT_ev rfl (EA_load_rp rfl rfl rfl ts45 ta45 (by first | rfl | simp) (by intro h; cases h)) rfl ?_
      refine DT_fcall0 rfl rfl cl29 (ih u (List.mem_of_getElem? hu)) rfl rfl ?_
      refine DT_ev rfl (EA_not rfl) rfl ?_
      refine DTi.nil ?_
      refine hK9 _ _ _ ?_
      refine AC_cond rfl (fun hc3 => ?_) (fun hc3 => ?_)
      · skip
        exact absurd hc3 (by simp)
      · skip
        refine AC_skip ?_
        refine hK8 _ _ _ ?_
        refine AC_region ?_
        refine AL_ev (Ev_move) rfl ?_
        first | refine AL_ev (Ev_add rfl rfl _ (wrap_id (by first | omega | (simp; omega)) (by first | omega | (simp; omega)))) rfl ?_ | refine AL_ev (Ev_add rfl rfl _ rfl) rfl ?_
        refine AL_ev (Ev_assign) rfl ?_
        refine AL_nil ?_
        refine closeS (j + 1) [] rfl rfl (by show ks.length - (j + 1) < ks.length - j; omega) hlt BxTo_nil (SlTo_cons (Vw_int (by omega)) (SlTo_cons (by first | exact .rd .d | exact .ptr rfl | exact .ref rfl | exact .any | exact Vw_int (by omega)) (SlTo_cons (by first | exact .rd .d | exact .ptr rfl | exact .ref rfl | exact .any | exact Vw_int (by omega)) SlTo_nil)))
    · skip
      refine AC_exit ?_
      refine hK4 _ _ _ ?_
      refine AC_seq fun K10 hK10 => ?_
      refine AC_region ?_
      refine AL_ev (Ev_assign) rfl ?_
      refine AL_nil ?_
      refine hK10 _ _ _ ?_
      refine AC_ret ?_
      exact ret_ok hdm (.tmp rfl rfl .nil) (.cons .d .nil) rfl

set_option maxHeartbeats 1000000 in
set_option maxRecDepth 4000 in
theorem c_eqTerm (t : T) : PCall Tryd.prog 29 [inj t, inj t] (· = [.c (.bool true)]) := by
  induction t using T.ind with | h k s m ks ih => ?_
  refine PCall_of (n := 26) Tryd.func29 rfl rfl (Nat.le_of_ble_eq_true rfl) fun C hdm hT0 => ?_
  have hT := hT0
  refine AC_seq fun K1 hK1 => ?_
  refine AC_region ?_
  refine AL_box (Lay.st [.one, .one, .one, .one]) (nf rfl) rfl (by first | rfl | simp [Lay.len, Lay.lens]) _ rfl rfl ?_
  refine AL_box (Lay.st [.one, .one, .one, .one]) (nf rfl) rfl (by first | rfl | simp [Lay.len, Lay.lens]) _ rfl rfl ?_
  refine AL_ev (Ev_assign) rfl ?_
  refine AL_nil ?_
  refine hK1 _ _ _ ?_
  refine AC_seq fun K2 hK2 => ?_
  refine AC_seq fun K3 hK3 => ?_
  refine AC_region ?_
  first | refine AL_ev (Ev_fa_ptr rfl fa45_0 rfl rfl) rfl ?_ | refine AL_ev (Ev_fa_rp rfl fa45_0 rfl rfl) rfl ?_
  first | refine AL_ev (Ev_load_ptr rfl rfl rfl rfl rfl rfl ts3 ta3 rfl (fun _ => rfl)) rfl ?_ | refine AL_ev (Ev_load_rp rfl rfl rfl ts3 ta3 rfl (fun _ => rfl)) rfl ?_
  first | refine AL_ev (Ev_fa_ptr rfl fa45_0 rfl rfl) rfl ?_ | refine AL_ev (Ev_fa_rp rfl fa45_0 rfl rfl) rfl ?_
  first | refine AL_ev (Ev_load_ptr rfl rfl rfl rfl rfl rfl ts3 ta3 rfl (fun _ => rfl)) rfl ?_ | refine AL_ev (Ev_load_rp rfl rfl rfl ts3 ta3 rfl (fun _ => rfl)) rfl ?_
  refine AL_ev (Ev_neq rfl rfl) rfl ?_
  refine AL_nil ?_
  refine hK3 _ _ _ ?_
  refine AC_cond rfl (fun hc1 => ?_) (fun hc1 => ?_)
  · skip
    exact absurd hc1 (by simp)
  · skip
    refine AC_skip ?_
    refine hK2 _ _ _ ?_
    refine AC_seq fun K4 hK4 => ?_
    refine AC_seq fun K5 hK5 => ?_
    refine AC_region ?_
    first | refine AL_ev (Ev_fa_ptr rfl fa45_1 rfl rfl) rfl ?_ | refine AL_ev (Ev_fa_rp rfl fa45_1 rfl rfl) rfl ?_
    first | refine AL_ev (Ev_load_ptr rfl rfl rfl rfl rfl rfl ts9 ta9 rfl (fun _ => rfl)) rfl ?_ | refine AL_ev (Ev_load_rp rfl rfl rfl ts9 ta9 rfl (fun _ => rfl)) rfl ?_
    first | refine AL_ev (Ev_fa_ptr rfl fa45_1 rfl rfl) rfl ?_ | refine AL_ev (Ev_fa_rp rfl fa45_1 rfl rfl) rfl ?_
    first | refine AL_ev (Ev_load_ptr rfl rfl rfl rfl rfl rfl ts9 ta9 rfl (fun _ => rfl)) rfl ?_ | refine AL_ev (Ev_load_rp rfl rfl rfl ts9 ta9 rfl (fun _ => rfl)) rfl ?_
    refine AL_ev (Ev_sneq rfl rfl) rfl ?_
    refine AL_nil ?_
    refine hK5 _ _ _ ?_
    refine AC_cond rfl (fun hc2 => ?_) (fun hc2 => ?_)
    · skip
      exact absurd hc2 (by simp)
    · skip
      refine AC_skip ?_
      refine hK4 _ _ _ ?_
      refine AC_seq fun K6 hK6 => ?_
      refine AC_seq fun K7 hK7 => ?_
      refine AC_region ?_
      first | refine AL_ev (Ev_fa_ptr rfl fa45_2 rfl rfl) rfl ?_ | refine AL_ev (Ev_fa_rp rfl fa45_2 rfl rfl) rfl ?_
      first | refine AL_ev (Ev_load_ptr rfl rfl rfl rfl rfl rfl ts3 ta3 rfl (fun _ => rfl)) rfl ?_ | refine AL_ev (Ev_load_rp rfl rfl rfl ts3 ta3 rfl (fun _ => rfl)) rfl ?_
      first | refine AL_ev (Ev_fa_ptr rfl fa45_2 rfl rfl) rfl ?_ | refine AL_ev (Ev_fa_rp rfl fa45_2 rfl rfl) rfl ?_
      first | refine AL_ev (Ev_load_ptr rfl rfl rfl rfl rfl rfl ts3 ta3 rfl (fun _ => rfl)) rfl ?_ | refine AL_ev (Ev_load_rp rfl rfl rfl ts3 ta3 rfl (fun _ => rfl)) rfl ?_
      refine AL_ev (Ev_neq rfl rfl) rfl ?_
      refine AL_nil ?_
      refine hK7 _ _ _ ?_
      refine AC_cond rfl (fun hc3 => ?_) (fun hc3 => ?_)
      · skip
        exact absurd hc3 (by simp)
      · skip
        refine AC_skip ?_
        refine hK6 _ _ _ ?_
        refine AC_seq fun K8 hK8 => ?_
        refine AC_seq fun K9 hK9 => ?_
        refine AC_region ?_
        first | refine AL_ev (Ev_fa_ptr rfl fa45_3 rfl rfl) rfl ?_ | refine AL_ev (Ev_fa_rp rfl fa45_3 rfl rfl) rfl ?_
        first | refine AL_ev (Ev_load_ptr rfl rfl rfl rfl rfl rfl ts41 ta41 rfl (fun _ => rfl)) rfl ?_ | refine AL_ev (Ev_load_rp rfl rfl rfl ts41 ta41 rfl (fun _ => rfl)) rfl ?_
        first | refine AL_ev (Ev_fa_ptr rfl fa45_3 rfl rfl) rfl ?_ | refine AL_ev (Ev_fa_rp rfl fa45_3 rfl rfl) rfl ?_
        first | refine AL_ev (Ev_load_ptr rfl rfl rfl rfl rfl rfl ts41 ta41 rfl (fun _ => rfl)) rfl ?_ | refine AL_ev (Ev_load_rp rfl rfl rfl ts41 ta41 rfl (fun _ => rfl)) rfl ?_
        refine AL_fcall0 hT rfl cl28 (c_eqTermS ks ih) rfl rfl ?_
        refine AL_ev (Ev_not rfl) rfl ?_
        refine AL_nil ?_
        refine hK9 _ _ _ ?_
        refine AC_cond rfl (fun hc4 => ?_) (fun hc4 => ?_)
        · skip
          exact absurd hc4 (by simp)
        · skip
          refine AC_skip ?_
          refine hK8 _ _ _ ?_
          refine AC_seq fun K10 hK10 => ?_
          refine AC_region ?_
          refine AL_ev (Ev_assign) rfl ?_
          refine AL_nil ?_
          refine hK10 _ _ _ ?_
          refine AC_ret ?_
          exact ret_ok hdm (.tmp rfl rfl .nil) (.cons .d .nil) rfl

set_option maxHeartbeats 1000000 in
set_option maxRecDepth 4000 in
theorem c_eqClause (c : Cl) : PCall Tryd.prog 97 [injC c, injC c] (· = [.c (.bool true)]) := by
  refine PCall_of (n := 22) Tryd.func97 rfl rfl (Nat.le_of_ble_eq_true rfl) fun C hdm hT0 => ?_
  have hT := hT0
  refine AC_seq fun K1 hK1 => ?_
  refine AC_region ?_
  refine AL_box (Lay.st [(Lay.st [.one, .one, .one, .one]), (Lay.st [.one, .one, .one, .one]), .one]) (nf rfl) rfl (by first | rfl | simp [Lay.len, Lay.lens]) _ rfl rfl ?_
  refine AL_box (Lay.st [(Lay.st [.one, .one, .one, .one]), (Lay.st [.one, .one, .one, .one]), .one]) (nf rfl) rfl (by first | rfl | simp [Lay.len, Lay.lens]) _ rfl rfl ?_
  refine AL_ev (Ev_assign) rfl ?_
  refine AL_nil ?_
  refine hK1 _ _ _ ?_
  refine AC_seq fun K2 hK2 => ?_
  refine AC_seq fun K3 hK3 => ?_
  refine AC_region ?_
  first | refine AL_ev (Ev_fa_ptr rfl fa68_0 rfl rfl) rfl ?_ | refine AL_ev (Ev_fa_rp rfl fa68_0 rfl rfl) rfl ?_
  first | refine AL_ev (Ev_load_ptr rfl rfl rfl rfl rfl rfl ts45 ta45 (by first | rfl | simp) (by intro h; cases h)) rfl ?_ | refine AL_ev (Ev_load_rp rfl rfl rfl ts45 ta45 (by first | rfl | simp) (by intro h; cases h)) rfl ?_
  first | refine AL_ev (Ev_fa_ptr rfl fa68_0 rfl rfl) rfl ?_ | refine AL_ev (Ev_fa_rp rfl fa68_0 rfl rfl) rfl ?_
  first | refine AL_ev (Ev_load_ptr rfl rfl rfl rfl rfl rfl ts45 ta45 (by first | rfl | simp) (by intro h; cases h)) rfl ?_ | refine AL_ev (Ev_load_rp rfl rfl rfl ts45 ta45 (by first | rfl | simp) (by intro h; cases h)) rfl ?_
  refine AL_fcall0 hT rfl cl29 (c_eqTerm c.h) rfl rfl ?_
  refine AL_ev (Ev_not rfl) rfl ?_
  refine AL_nil ?_
  refine hK3 _ _ _ ?_
  refine AC_cond rfl (fun hc1 => ?_) (fun hc1 => ?_)
  · skip
    exact absurd hc1 (by simp)
  · skip
    refine AC_skip ?_
    refine hK2 _ _ _ ?_
    refine AC_seq fun K4 hK4 => ?_
    refine AC_seq fun K5 hK5 => ?_
    refine AC_region ?_
    first | refine AL_ev (Ev_fa_ptr rfl fa68_1 rfl rfl) rfl ?_ | refine AL_ev (Ev_fa_rp rfl fa68_1 rfl rfl) rfl ?_
    first | refine AL_ev (Ev_load_ptr rfl rfl rfl rfl rfl rfl ts45 ta45 (by first | rfl | simp) (by intro h; cases h)) rfl ?_ | refine AL_ev (Ev_load_rp rfl rfl rfl ts45 ta45 (by first | rfl | simp) (by intro h; cases h)) rfl ?_
    first | refine AL_ev (Ev_fa_ptr rfl fa68_1 rfl rfl) rfl ?_ | refine AL_ev (Ev_fa_rp rfl fa68_1 rfl rfl) rfl ?_
    first | refine AL_ev (Ev_load_ptr rfl rfl rfl rfl rfl rfl ts45 ta45 (by first | rfl | simp) (by intro h; cases h)) rfl ?_ | refine AL_ev (Ev_load_rp rfl rfl rfl ts45 ta45 (by first | rfl | simp) (by intro h; cases h)) rfl ?_
    refine AL_fcall0 hT rfl cl29 (c_eqTerm c.b) rfl rfl ?_
    refine AL_ev (Ev_not rfl) rfl ?_
    refine AL_nil ?_
    refine hK5 _ _ _ ?_
    refine AC_cond rfl (fun hc2 => ?_) (fun hc2 => ?_)
    · skip
      exact absurd hc2 (by simp)
    · skip
      refine AC_skip ?_
      refine hK4 _ _ _ ?_
      refine AC_seq fun K6 hK6 => ?_
      refine AC_seq fun K7 hK7 => ?_
      refine AC_region ?_
      first | refine AL_ev (Ev_fa_ptr rfl fa68_2 rfl rfl) rfl ?_ | refine AL_ev (Ev_fa_rp rfl fa68_2 rfl rfl) rfl ?_
      first | refine AL_ev (Ev_load_ptr rfl rfl rfl rfl rfl rfl ts9 ta9 rfl (fun _ => rfl)) rfl ?_ | refine AL_ev (Ev_load_rp rfl rfl rfl ts9 ta9 rfl (fun _ => rfl)) rfl ?_
      first | refine AL_ev (Ev_fa_ptr rfl fa68_2 rfl rfl) rfl ?_ | refine AL_ev (Ev_fa_rp rfl fa68_2 rfl rfl) rfl ?_
      first | refine AL_ev (Ev_load_ptr rfl rfl rfl rfl rfl rfl ts9 ta9 rfl (fun _ => rfl)) rfl ?_ | refine AL_ev (Ev_load_rp rfl rfl rfl ts9 ta9 rfl (fun _ => rfl)) rfl ?_
      refine AL_ev (Ev_sneq rfl rfl) rfl ?_
      refine AL_nil ?_
      refine hK7 _ _ _ ?_
      refine AC_cond rfl (fun hc3 => ?_) (fun hc3 => ?_)
      · skip
        exact absurd hc3 (by simp)
      · skip
        refine AC_skip ?_
        refine hK6 _ _ _ ?_
        refine AC_seq fun K8 hK8 => ?_
        refine AC_region ?_
        refine AL_ev (Ev_assign) rfl ?_
        refine AL_nil ?_
        refine hK8 _ _ _ ?_
        refine AC_ret ?_
        exact ret_ok hdm (.tmp rfl rfl .nil) (.cons .d .nil) rfl

set_option maxHeartbeats 1000000 in
set_option maxRecDepth 4000 in
theorem c_szTermS (ks : List T) (ih : ∀ u ∈ ks, ∀ l : Int, bulk u ≤ l → l ≤ 1099511627776 → PCall Tryd.prog 24 [inj u, .c (.int .i64 l)] (· = [.c (.int .i64 (l - bulk u))])) (l : Int) (hl0 : ks.length + bulkL ks ≤ l) (hl9 : l ≤ 1099511627776) : PCall Tryd.prog 67 [.sl LT (injs ks), .c (.int .i64 l)] (· = [.c (.int .i64 (l - (ks.length + bulkL ks)))]) := by
  have hbn := bulkL_nn ks
  refine PCall_of (n := 27) Tryd.func67 rfl rfl (Nat.le_of_ble_eq_true rfl) fun C hdm hT0 => ?_
  have hT := hT0
  refine AC_seq fun K1 hK1 => ?_
  refine AC_region ?_
  refine AL_ev (Ev_assign) rfl ?_
  refine AL_nil ?_
  refine hK1 _ _ _ ?_
  refine AC_seq fun K2 hK2 => ?_
  refine AC_region ?_
  refine AL_ev (Ev_move) rfl ?_
  refine AL_ev (Ev_move) rfl ?_
  first | refine AL_lim (x := (Operand.tmp 7)) rfl fun hl1 => ?_ | refine AL_limB (x := (Operand.tmp 7)) rfl rfl (by first | rfl | (simp; done) | (simp; omega)) fun hl1 => ?_ | have hl1 := True.intro
  try simp only [injs_length, ints_length, strs_length, injCs_length, List.length_map] at hl1
  first | refine AL_ev (Ev_len_injs te37 rfl) rfl ?_ | refine AL_ev (Ev_len_sl te37 rfl) rfl ?_ | refine AL_ev (Ev_len_ref te37 rfl) rfl ?_ | refine AL_ev (Ev_len_nil te37 rfl) rfl ?_ | refine AL_ev (Ev_len_c te37 rfl) rfl ?_
  first | refine AL_ev (Ev_sub rfl rfl _ (wrap_id (by first | omega | (simp; omega)) (by first | omega | (simp; omega)))) rfl ?_ | refine AL_ev (Ev_sub rfl rfl _ rfl) rfl ?_
  refine AL_ev (Ev_assign) rfl ?_
  refine AL_nil ?_
  refine hK2 _ _ _ ?_
  refine AC_seq fun K3 hK3 => ?_
  refine AC_seq fun K4 hK4 => ?_
  refine AC_region ?_
  refine AL_ev (Ev_move) rfl ?_
  refine AL_ev (Ev_lss rfl rfl) rfl ?_
  refine AL_nil ?_
  refine hK4 _ _ _ ?_
  refine AC_cond rfl (fun hc1 => ?_) (fun hc1 => ?_)
  · skip
    have : l - (ks.length : Int) < 0 := by simpa using hc1
    omega
  · skip
    refine AC_skip ?_
    refine hK3 _ _ _ ?_
    refine AC_seq fun K5 hK5 => ?_
    refine AC_seq fun K6 hK6 => ?_
    refine AC_region ?_
    refine AL_ev (Ev_assign) rfl ?_
    refine AL_nil ?_
    refine hK6 _ _ _ ?_
    refine AC_block ?_
    refine AC_loopS [0] (Nat) (fun j => [(1, i64 (l - ks.length - bulkL (ks.take j))), (5, i64 j)]) (fun j => []) (fun j => ks.length - j) (fun j => j ≤ ks.length) (0) ?_ ?_ ?_
    · skip
      exact enterS [] rfl rfl BxTo_nil (SlTo_cons (Vw_int (by simp [bulkL])) (SlTo_cons (by first | exact .rd .d | exact .ptr rfl | exact .ref rfl | exact .any | exact Vw_int (by omega)) (SlTo_cons (by first | exact .rd .d | exact .ptr rfl | exact .ref rfl | exact .any | exact Vw_int (by omega)) SlTo_nil)))
    · skip
      exact Nat.zero_le _
    intro j hj
    have hbt := bulkL_take_le ks j
    have hbn2 := bulkL_nn (ks.take j)
    refine AC_seq fun K7 hK7 => ?_
    refine AC_seq fun K8 hK8 => ?_
    refine AC_region ?_
    refine AL_ev (Ev_move) rfl ?_
    refine AL_ev (Ev_move) rfl ?_
    first | refine AL_lim (x := (Operand.tmp 13)) rfl fun hl2 => ?_ | refine AL_limB (x := (Operand.tmp 13)) rfl rfl (by first | rfl | (simp; done) | (simp; omega)) fun hl2 => ?_ | have hl2 := True.intro
    try simp only [injs_length, ints_length, strs_length, injCs_length, List.length_map] at hl2
    first | refine AL_ev (Ev_len_injs te37 rfl) rfl ?_ | refine AL_ev (Ev_len_sl te37 rfl) rfl ?_ | refine AL_ev (Ev_len_ref te37 rfl) rfl ?_ | refine AL_ev (Ev_len_nil te37 rfl) rfl ?_ | refine AL_ev (Ev_len_c te37 rfl) rfl ?_
    refine AL_ev (Ev_lss rfl rfl) rfl ?_
    refine AL_nil ?_
    refine hK8 _ _ _ ?_
    refine AC_cond rfl (fun hc2 => ?_) (fun hc2 => ?_)
    · skip
      have hlt : j < ks.length := by simpa using hc2
      obtain ⟨u, hu⟩ : ∃ u, ks[j]? = some u := ⟨_, List.getElem?_eq_getElem hlt⟩
      have hu2 := injs_get hu
      have hbt2 := bulkL_take_le ks (j + 1)
      rw [bulkL_take hu] at hbt2
      refine AC_skip ?_
      refine hK7 _ _ _ ?_
      refine AC_seq fun K9 hK9 => ?_
      refine AC_block ?_
      refine AC_seq fun K10 hK10 => ?_
      refine AC_region ?_
      refine AL_ev (Ev_move) rfl ?_
      refine AL_ev (Ev_move) rfl ?_
      first | refine AL_ev (Ev_ix_sl rfl rfl te37 ts39 (by omega) (by assumption)) rfl ?_ | refine AL_ev (Ev_ix_ref rfl rfl te37 ts39 (by omega) (by first | omega | (simp; omega))) rfl ?_
      first | refine AL_ev (Ev_load_ptr rfl rfl rfl rfl rfl rfl ts39 ta39 (by first | rfl | simp) (by intro h; cases h)) rfl ?_ | refine AL_ev (Ev_load_rp rfl rfl rfl ts39 ta39 (by first | rfl | simp) (by intro h; cases h)) rfl ?_
      refine AL_ev (Ev_move) rfl ?_
      refine AL_fcall0 hT rfl cl24 (ih u (List.mem_of_getElem? hu) (l - ks.length - bulkL (ks.take j)) (by omega) (by omega)) rfl rfl ?_
      refine AL_ev (Ev_assign) rfl ?_
      refine AL_nil ?_
      refine hK10 _ _ _ ?_
      refine AC_seq fun K11 hK11 => ?_
      refine AC_region ?_
      refine AL_ev (Ev_move) rfl ?_
      refine AL_ev (Ev_lss rfl rfl) rfl ?_
      refine AL_nil ?_
      refine hK11 _ _ _ ?_
      refine AC_cond rfl (fun hc3 => ?_) (fun hc3 => ?_)
      · skip
        have : l - ks.length - bulkL (ks.take j) - bulk u < 0 := by simpa using hc3
        omega
      · skip
        refine AC_skip ?_
        refine hK9 _ _ _ ?_
        refine AC_region ?_
        refine AL_ev (Ev_move) rfl ?_
        first | refine AL_ev (Ev_add rfl rfl _ (wrap_id (by first | omega | (simp; omega)) (by first | omega | (simp; omega)))) rfl ?_ | refine AL_ev (Ev_add rfl rfl _ rfl) rfl ?_
        refine AL_ev (Ev_assign) rfl ?_
        refine AL_nil ?_
        refine closeS (j + 1) [] rfl rfl (by show ks.length - (j + 1) < ks.length - j; omega) hlt BxTo_nil (SlTo_cons (Vw_int (by rw [bulkL_take hu]; omega)) (SlTo_cons (Vw_int (by omega)) (SlTo_cons (by first | exact .rd .d | exact .ptr rfl | exact .ref rfl | exact .any | exact Vw_int (by omega)) SlTo_nil)))
    · skip
      refine AC_exit ?_
      refine hK5 _ _ _ ?_
      refine AC_seq fun K12 hK12 => ?_
      refine AC_region ?_
      refine AL_ev (Ev_move) rfl ?_
      refine AL_ev (Ev_assign) rfl ?_
      refine AL_nil ?_
      refine hK12 _ _ _ ?_
      refine AC_ret ?_
      have hj2 : j = ks.length := by
        have : ¬ j < ks.length := by simpa using hc2
        omega
      subst hj2
      exact ret_ok hdm (.tmp rfl rfl .nil) (.cons .d .nil) (by rw [List.take_length]; congr 3; omega)

set_option maxHeartbeats 1000000 in
set_option maxRecDepth 4000 in
theorem c_szTerm (t : T) : ∀ l : Int, bulk t ≤ l → l ≤ 1099511627776 → PCall Tryd.prog 24 [inj t, .c (.int .i64 l)] (· = [.c (.int .i64 (l - bulk t))]) := by
  induction t using T.ind with | h k s m ks ih => ?_
  intro l hl0 hl9
  have hl1 : (s.size : Int) + bulkS ks ≤ l := by simpa only [bulk] using hl0
  rw [bulkS_eq] at hl1
  have hbn := bulkL_nn ks
  refine PCall_of (n := 19) Tryd.func24 rfl rfl (Nat.le_of_ble_eq_true rfl) fun C hdm hT0 => ?_
  have hT := hT0
  refine AC_seq fun K1 hK1 => ?_
  refine AC_region ?_
  refine AL_box (Lay.st [.one, .one, .one, .one]) (nf rfl) rfl (by first | rfl | simp [Lay.len, Lay.lens]) _ rfl rfl ?_
  refine AL_ev (Ev_assign) rfl ?_
  refine AL_nil ?_
  refine hK1 _ _ _ ?_
  refine AC_seq fun K2 hK2 => ?_
  refine AC_region ?_
  refine AL_ev (Ev_move) rfl ?_
  first | refine AL_ev (Ev_fa_ptr rfl fa39_1 rfl rfl) rfl ?_ | refine AL_ev (Ev_fa_rp rfl fa39_1 rfl rfl) rfl ?_
  first | refine AL_ev (Ev_load_ptr rfl rfl rfl rfl rfl rfl ts9 ta9 rfl (fun _ => rfl)) rfl ?_ | refine AL_ev (Ev_load_rp rfl rfl rfl ts9 ta9 rfl (fun _ => rfl)) rfl ?_
  refine AL_ev (Ev_len_str tstr9 rfl) rfl ?_
  first | refine AL_ev (Ev_sub rfl rfl _ (wrap_id (by first | omega | (simp; omega)) (by first | omega | (simp; omega)))) rfl ?_ | refine AL_ev (Ev_sub rfl rfl _ rfl) rfl ?_
  refine AL_ev (Ev_assign) rfl ?_
  refine AL_nil ?_
  refine hK2 _ _ _ ?_
  refine AC_seq fun K3 hK3 => ?_
  refine AC_seq fun K4 hK4 => ?_
  refine AC_region ?_
  refine AL_ev (Ev_move) rfl ?_
  refine AL_ev (Ev_lss rfl rfl) rfl ?_
  refine AL_nil ?_
  refine hK4 _ _ _ ?_
  refine AC_cond rfl (fun hc1 => ?_) (fun hc1 => ?_)
  · skip
    have : l - (s.size : Int) < 0 := by simpa using hc1
    omega
  · skip
    refine AC_skip ?_
    refine hK3 _ _ _ ?_
    refine AC_seq fun K5 hK5 => ?_
    refine AC_region ?_
    first | refine AL_ev (Ev_fa_ptr rfl fa39_3 rfl rfl) rfl ?_ | refine AL_ev (Ev_fa_rp rfl fa39_3 rfl rfl) rfl ?_
    first | refine AL_ev (Ev_load_ptr rfl rfl rfl rfl rfl rfl ts37 ta37 rfl (fun _ => rfl)) rfl ?_ | refine AL_ev (Ev_load_rp rfl rfl rfl ts37 ta37 rfl (fun _ => rfl)) rfl ?_
    refine AL_ev (Ev_move) rfl ?_
    refine AL_fcall0 hT rfl cl67 (c_szTermS ks ih (l - s.size) (by omega) (by omega)) rfl rfl ?_
    refine AL_ev (Ev_assign) rfl ?_
    refine AL_nil ?_
    refine hK5 _ _ _ ?_
    refine AC_seq fun K6 hK6 => ?_
    refine AC_seq fun K7 hK7 => ?_
    refine AC_region ?_
    refine AL_ev (Ev_move) rfl ?_
    refine AL_ev (Ev_lss rfl rfl) rfl ?_
    refine AL_nil ?_
    refine hK7 _ _ _ ?_
    refine AC_cond rfl (fun hc2 => ?_) (fun hc2 => ?_)
    · skip
      have : l - (s.size : Int) - (ks.length + bulkL ks) < 0 := by simpa using hc2
      omega
    · skip
      refine AC_skip ?_
      refine hK6 _ _ _ ?_
      refine AC_seq fun K8 hK8 => ?_
      refine AC_region ?_
      refine AL_ev (Ev_move) rfl ?_
      refine AL_ev (Ev_assign) rfl ?_
      refine AL_nil ?_
      refine hK8 _ _ _ ?_
      refine AC_ret ?_
      exact ret_ok hdm (.tmp rfl rfl .nil) (.cons .d .nil) (by simp only [bulk, bulkS_eq]; congr 3; omega)

set_option maxHeartbeats 1000000 in
set_option maxRecDepth 4000 in
theorem c_toClause (c : Cl) : OCall Tryd.prog 95 [injC c] (injC c) := by
  refine OCall_of (n := 16) Tryd.func95 rfl rfl (Nat.le_of_ble_eq_true rfl) fun C0 hdm hT0 => ?_
  have hX0 := CExt.refl C0
  have hT := hT0
  refine AC_seq fun K1 hK1 => ?_
  refine AC_region ?_
  refine AL_box (Lay.st [(Lay.st [.one, .one, .one, .one]), (Lay.st [.one, .one, .one, .one]), .one]) (nf rfl) rfl (by first | rfl | simp [Lay.len, Lay.lens]) _ rfl rfl ?_
  refine AL_alloc zo68 _ rfl rfl ?_
  refine AL_nil ?_
  refine hK1 _ _ _ ?_
  refine AC_seq fun K2 hK2 => ?_
  refine AC_region ?_
  refine AL_alloc zo68 _ rfl rfl ?_
  refine AL_nil ?_
  refine hK2 _ _ _ ?_
  refine AC_seq fun K3 hK3 => ?_
  refine AC_region ?_
  first | refine AL_ev (Ev_fa_ptr rfl fa94_0 rfl rfl) rfl ?_ | refine AL_ev (Ev_fa_rp rfl fa94_0 rfl rfl) rfl ?_
  first | refine AL_ev (Ev_load_ptr rfl rfl rfl rfl rfl rfl ts39 ta39 (by first | rfl | simp) (by intro h; cases h)) rfl ?_ | refine AL_ev (Ev_load_rp rfl rfl rfl ts39 ta39 (by first | rfl | simp) (by intro h; cases h)) rfl ?_
  refine AL_ocall0 hT LT rfl cl26 (c_toTerm c.h) rfl (inj_lenL _) (inj_agL _) rfl fun C1 cs1 K1 hg1 => ?_
  have hX1 := hX0.trans hg1.ext
  have hT := hT.ext hg1.ext
  obtain ⟨A1, rfl, hA1⟩ := T_cells hg1.has
  first | refine AL_ev (Ev_fa_ptr rfl fa68_0 rfl rfl) rfl ?_ | refine AL_ev (Ev_fa_rp rfl fa68_0 rfl rfl) rfl ?_
  first | refine AL_store rfl (nf rfl) rfl rfl rfl rfl rfl rfl (by first | rfl | simp [Lay.len, Lay.lens]) ts45 rfl rfl ?_ | refine AL_store rfl (nf rfl) rfl rfl rfl hes rfl rfl (by first | rfl | simp [Lay.len, Lay.lens]) ts45 rfl rfl ?_
  refine AL_nil ?_
  refine hK3 _ _ _ ?_
  refine AC_seq fun K4 hK4 => ?_
  refine AC_region ?_
  first | refine AL_ev (Ev_fa_ptr rfl fa94_1 rfl rfl) rfl ?_ | refine AL_ev (Ev_fa_rp rfl fa94_1 rfl rfl) rfl ?_
  first | refine AL_ev (Ev_load_ptr rfl rfl rfl rfl rfl rfl ts39 ta39 (by first | rfl | simp) (by intro h; cases h)) rfl ?_ | refine AL_ev (Ev_load_rp rfl rfl rfl ts39 ta39 (by first | rfl | simp) (by intro h; cases h)) rfl ?_
  refine AL_ocall0 hT LT rfl cl26 (c_toTerm c.b) rfl (inj_lenL _) (inj_agL _) rfl fun C2 cs2 K2 hg2 => ?_
  have hX2 := hX1.trans hg2.ext
  have hT := hT.ext hg2.ext
  obtain ⟨A2, rfl, hA2⟩ := T_cells hg2.has
  first | refine AL_ev (Ev_fa_ptr rfl fa68_1 rfl rfl) rfl ?_ | refine AL_ev (Ev_fa_rp rfl fa68_1 rfl rfl) rfl ?_
  first | refine AL_store rfl (nf rfl) rfl rfl rfl rfl rfl rfl (by first | rfl | simp [Lay.len, Lay.lens]) ts45 rfl rfl ?_ | refine AL_store rfl (nf rfl) rfl rfl rfl hes rfl rfl (by first | rfl | simp [Lay.len, Lay.lens]) ts45 rfl rfl ?_
  refine AL_nil ?_
  refine hK4 _ _ _ ?_
  refine AC_seq fun K5 hK5 => ?_
  refine AC_region ?_
  first | refine AL_ev (Ev_fa_ptr rfl fa94_2 rfl rfl) rfl ?_ | refine AL_ev (Ev_fa_rp rfl fa94_2 rfl rfl) rfl ?_
  first | refine AL_ev (Ev_load_ptr rfl rfl rfl rfl rfl rfl ts9 ta9 rfl (fun _ => rfl)) rfl ?_ | refine AL_ev (Ev_load_rp rfl rfl rfl ts9 ta9 rfl (fun _ => rfl)) rfl ?_
  first | refine AL_ev (Ev_fa_ptr rfl fa68_2 rfl rfl) rfl ?_ | refine AL_ev (Ev_fa_rp rfl fa68_2 rfl rfl) rfl ?_
  first | refine AL_store rfl (nf rfl) rfl rfl rfl rfl rfl rfl (by first | rfl | simp [Lay.len, Lay.lens]) ts9 rfl rfl ?_ | refine AL_store rfl (nf rfl) rfl rfl rfl hes rfl rfl (by first | rfl | simp [Lay.len, Lay.lens]) ts9 rfl rfl ?_
  refine AL_nil ?_
  refine hK5 _ _ _ ?_
  refine AC_seq fun K6 hK6 => ?_
  refine AC_region ?_
  first | refine AL_ev (Ev_load_ptr rfl rfl rfl rfl rfl rfl ts68 ta68 (by first | rfl | simp) (by intro h; cases h)) rfl ?_ | refine AL_ev (Ev_load_rp rfl rfl rfl ts68 ta68 (by first | rfl | simp) (by intro h; cases h)) rfl ?_
  first | refine AL_store rfl (nf rfl) rfl rfl rfl rfl rfl rfl (by first | rfl | simp [Lay.len, Lay.lens]) ts68 rfl rfl ?_ | refine AL_store rfl (nf rfl) rfl rfl rfl hes rfl rfl (by first | rfl | simp [Lay.len, Lay.lens]) ts68 rfl rfl ?_
  refine AL_nil ?_
  refine hK6 _ _ _ ?_
  refine AC_ret ?_
  exact reto_ok hX2 hdm (.cell rfl rfl rfl rfl rfl rfl ts68 ta68 rfl (by intro h; cases h) .nil) (ow_C hg1 hg2 hX0.pres.size) rfl rfl

set_option maxHeartbeats 1000000 in
set_option maxRecDepth 4000 in
theorem c_szClause (c : Cl) (l : Int) (hl0 : bulk c.h + bulk c.b + c.f.size ≤ l) (hl9 : l ≤ 1099511627776) : PCall Tryd.prog 93 [injC c, .c (.int .i64 l)] (· = [.c (.int .i64 (l - bulk c.h - bulk c.b - c.f.size))]) := by
  have hb1 := bulk_nn c.h
  have hb2 := bulk_nn c.b
  refine PCall_of (n := 25) Tryd.func93 rfl rfl (Nat.le_of_ble_eq_true rfl) fun C hdm hT0 => ?_
  have hT := hT0
  refine AC_seq fun K1 hK1 => ?_
  refine AC_region ?_
  refine AL_box (Lay.st [(Lay.st [.one, .one, .one, .one]), (Lay.st [.one, .one, .one, .one]), .one]) (nf rfl) rfl (by first | rfl | simp [Lay.len, Lay.lens]) _ rfl rfl ?_
  refine AL_ev (Ev_assign) rfl ?_
  refine AL_nil ?_
  refine hK1 _ _ _ ?_
  refine AC_seq fun K2 hK2 => ?_
  refine AC_region ?_
  first | refine AL_ev (Ev_fa_ptr rfl fa94_0 rfl rfl) rfl ?_ | refine AL_ev (Ev_fa_rp rfl fa94_0 rfl rfl) rfl ?_
  first | refine AL_ev (Ev_load_ptr rfl rfl rfl rfl rfl rfl ts39 ta39 (by first | rfl | simp) (by intro h; cases h)) rfl ?_ | refine AL_ev (Ev_load_rp rfl rfl rfl ts39 ta39 (by first | rfl | simp) (by intro h; cases h)) rfl ?_
  refine AL_ev (Ev_move) rfl ?_
  refine AL_fcall0 hT rfl cl24 (c_szTerm c.h l (by omega) hl9) rfl rfl ?_
  refine AL_ev (Ev_assign) rfl ?_
  refine AL_nil ?_
  refine hK2 _ _ _ ?_
  refine AC_seq fun K3 hK3 => ?_
  refine AC_seq fun K4 hK4 => ?_
  refine AC_region ?_
  refine AL_ev (Ev_move) rfl ?_
  refine AL_ev (Ev_lss rfl rfl) rfl ?_
  refine AL_nil ?_
  refine hK4 _ _ _ ?_
  refine AC_cond rfl (fun hc1 => ?_) (fun hc1 => ?_)
  · skip
    have : l - bulk c.h < 0 := by simpa using hc1
    omega
  · skip
    refine AC_skip ?_
    refine hK3 _ _ _ ?_
    refine AC_seq fun K5 hK5 => ?_
    refine AC_region ?_
    first | refine AL_ev (Ev_fa_ptr rfl fa94_1 rfl rfl) rfl ?_ | refine AL_ev (Ev_fa_rp rfl fa94_1 rfl rfl) rfl ?_
    first | refine AL_ev (Ev_load_ptr rfl rfl rfl rfl rfl rfl ts39 ta39 (by first | rfl | simp) (by intro h; cases h)) rfl ?_ | refine AL_ev (Ev_load_rp rfl rfl rfl ts39 ta39 (by first | rfl | simp) (by intro h; cases h)) rfl ?_
    refine AL_ev (Ev_move) rfl ?_
    refine AL_fcall0 hT rfl cl24 (c_szTerm c.b (l - bulk c.h) (by omega) (by omega)) rfl rfl ?_
    refine AL_ev (Ev_assign) rfl ?_
    refine AL_nil ?_
    refine hK5 _ _ _ ?_
    refine AC_seq fun K6 hK6 => ?_
    refine AC_seq fun K7 hK7 => ?_
    refine AC_region ?_
    refine AL_ev (Ev_move) rfl ?_
    refine AL_ev (Ev_lss rfl rfl) rfl ?_
    refine AL_nil ?_
    refine hK7 _ _ _ ?_
    refine AC_cond rfl (fun hc2 => ?_) (fun hc2 => ?_)
    · skip
      have : l - bulk c.h - bulk c.b < 0 := by simpa using hc2
      omega
    · skip
      refine AC_skip ?_
      refine hK6 _ _ _ ?_
      refine AC_seq fun K8 hK8 => ?_
      refine AC_region ?_
      refine AL_ev (Ev_move) rfl ?_
      first | refine AL_ev (Ev_fa_ptr rfl fa94_2 rfl rfl) rfl ?_ | refine AL_ev (Ev_fa_rp rfl fa94_2 rfl rfl) rfl ?_
      first | refine AL_ev (Ev_load_ptr rfl rfl rfl rfl rfl rfl ts9 ta9 rfl (fun _ => rfl)) rfl ?_ | refine AL_ev (Ev_load_rp rfl rfl rfl ts9 ta9 rfl (fun _ => rfl)) rfl ?_
      refine AL_ev (Ev_len_str tstr9 rfl) rfl ?_
      first | refine AL_ev (Ev_sub rfl rfl _ (wrap_id (by first | omega | (simp; omega)) (by first | omega | (simp; omega)))) rfl ?_ | refine AL_ev (Ev_sub rfl rfl _ rfl) rfl ?_
      refine AL_ev (Ev_assign) rfl ?_
      refine AL_nil ?_
      refine hK8 _ _ _ ?_
      refine AC_seq fun K9 hK9 => ?_
      refine AC_seq fun K10 hK10 => ?_
      refine AC_region ?_
      refine AL_ev (Ev_move) rfl ?_
      refine AL_ev (Ev_lss rfl rfl) rfl ?_
      refine AL_nil ?_
      refine hK10 _ _ _ ?_
      refine AC_cond rfl (fun hc3 => ?_) (fun hc3 => ?_)
      · skip
        have : l - bulk c.h - bulk c.b - c.f.size < 0 := by simpa using hc3
        omega
      · skip
        refine AC_skip ?_
        refine hK9 _ _ _ ?_
        refine AC_seq fun K11 hK11 => ?_
        refine AC_region ?_
        refine AL_ev (Ev_move) rfl ?_
        refine AL_ev (Ev_assign) rfl ?_
        refine AL_nil ?_
        refine hK11 _ _ _ ?_
        refine AC_ret ?_
        exact ret_ok hdm (.tmp rfl rfl .nil) (.cons .d .nil) rfl

end Go.Proofs.YtleahipnknainaaDoor
