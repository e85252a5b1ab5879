/- Contracts of functions. -/
import Derived.Test.YtjhdkjacfclipaaMt
import Derived.Test.YtjhdkjacfclipaaOk
import Derived.Test.YtjhdkjacfclipaaWn
import Derived.Test.YtjhdkjacfclipaaEng27
import Derived.Test.YtjhdkjacfclipaaLc
import Derived.Test.YtjhdkjacfclipaaOw
import Derived.Test.YtjhdkjacfclipaaGd
import Derived.Test.YtjhdkjacfclipaaProg
import Derived.KernelRfl
import Derived.Test.YtjhdkjacfclipaaCA
import Derived.Test.YtjhdkjacfclipaaCB
import Derived.Test.YtjhdkjacfclipaaCLA
import Derived.Test.YtjhdkjacfclipaaCS
import Derived.Test.YtjhdkjacfclipaaCV
import Derived.Test.YtjhdkjacfclipaaCX
import Derived.Test.YtjhdkjacfclipaaCY
set_option linter.unusedVariables false
set_option linter.unusedSimpArgs false
namespace Go.Proofs.Ytjhdkjacfclipaa
open Go.Eng

theorem cl66 : Callable Try.prog 66 := Callable_of Try.func66 (by kernel_rfl) (by kernel_rfl)
theorem cl67 : Callable Try.prog 67 := Callable_of Try.func67 (by kernel_rfl) (by kernel_rfl)
theorem cl68 : Callable Try.prog 68 := Callable_of Try.func68 (by kernel_rfl) (by kernel_rfl)
theorem cl69 : Callable Try.prog 69 := Callable_of Try.func69 (by kernel_rfl) (by kernel_rfl)

set_option maxHeartbeats 1000000 in
set_option maxRecDepth 4000 in
theorem c_backward (t : T) (xs : List T) (b1 : Bool) (h1 : Itm t xs b1) (hb : bulk t ≤ 1048576) (o : T) (k : Bool) (hk : k = (b1 && okT (mkList xs.reverse))) (ho : o = if k then mkList xs.reverse else term0) : PCall Try.prog 30 [inj t] (· = [inj o, .c (.bool k)]) := by
  have hn1 := h1.bulk
  have hxn := bulkL_nn xs
  have hbo : bulk (mkList xs.reverse) ≤ 1099511627775 := by
    rw [← mkListE_nil, bulk_mkListE, bulk_leaf]
    have h9 : (nmNil.size : Int) = 2 := rfl
    rw [h9, bulkL_rev, List.length_reverse]
    omega
  subst ho
  have hLO : PCall Try.prog 63 [.sl LT (injs xs.reverse), inj (.mk 2 nmNil 0 [])] (· = [inj (mkList xs.reverse)]) := by have h9 := c_listOf xs.reverse (atom0 nmNil); rwa [mkListE_nil] at h9
  refine PCall_of (n := 25) Try.func30 rfl rfl (Nat.le_of_ble_eq_true rfl) fun C hdm hT0 => ?_
  have hT := hT0
  refine AC_seq fun K1 hK1 => ?_
  refine AC_region ?_
  refine AL_box (Lay.st [.one, .one, .one, .one]) (nf rfl) rfl (by first | rfl | simp [Lay.len, Lay.lens]) _ rfl rfl ?_
  refine AL_alloc zo35 _ rfl rfl ?_
  refine AL_ev (Ev_assign) rfl ?_
  refine AL_nil ?_
  refine hK1 _ _ _ ?_
  refine AC_seq fun K2 hK2 => ?_
  refine AC_region ?_
  first | refine AL_ev (Ev_load_ptr rfl rfl rfl rfl rfl rfl ts35 ta35 (by first | rfl | assumption | simp) (by intro h; cases h)) rfl ?_ | refine AL_ev (Ev_load_rp rfl rfl rfl ts35 ta35 (by first | rfl | assumption | simp) (by intro h; cases h)) rfl ?_
  refine AL_llcall hT rfl cl23 (c_itemsOf t xs b1 h1 (by omega)) rfl _ rfl rfl rfl ?_
  refine AL_ev (Ev_move) rfl ?_
  refine AL_ev (Ev_extract rfl rfl) rfl ?_
  refine AL_ev (Ev_extract rfl rfl) rfl ?_
  refine AL_ev (Ev_assign) rfl ?_
  refine AL_ev (Ev_assign) rfl ?_
  refine AL_nil ?_
  refine hK2 _ _ _ ?_
  refine AC_seq fun K3 hK3 => ?_
  refine AC_seq fun K4 hK4 => ?_
  refine AC_region ?_
  refine AL_ev (Ev_move) rfl ?_
  refine AL_ev (Ev_not rfl) rfl ?_
  refine AL_nil ?_
  refine hK4 _ _ _ ?_
  refine AC_cond rfl (fun hc1 => ?_) (fun hc1 => ?_)
  · skip
    refine AC_seq fun K5 hK5 => ?_
    refine AC_region ?_
    refine AL_ev (Ev_build (fs := [.one, .one, .one, .one]) (zs := [.c (.int .i64 0), .c (.string ⟨#[]⟩), .c (.int .i64 0), .c (.slice none 0 0)]) tz35 rfl tpl35 .nil) rfl ?_
    first | refine AL_store rfl (nf rfl) rfl rfl rfl rfl rfl rfl (by first | rfl | assumption | simp [Lay.len, Lay.lens]) ts35 rfl rfl ?_ | refine AL_store rfl (nf rfl) rfl rfl rfl hes rfl rfl (by first | rfl | assumption | simp [Lay.len, Lay.lens]) ts35 rfl rfl ?_
    refine AL_ev (Ev_assign) rfl ?_
    refine AL_nil ?_
    refine hK5 _ _ _ ?_
    refine AC_ret ?_
    refine ret_ok hdm (.cell rfl rfl rfl rfl rfl rfl ts35 ta35 (by first | rfl | simp) (by intro h; cases h) (.tmp rfl rfl .nil)) (.cons (by first | exact .agg (.cons .d (.cons .d (.cons .d (.cons (.nil (l := LT)) .nil)))) | exact .d | exact .agg (.cons .d (.cons .d (.cons .d (.cons .d .nil))))) (.cons .d .nil)) ?_
    simp_all
    rfl
  · skip
    refine AC_skip ?_
    refine hK3 _ _ _ ?_
    refine AC_seq fun K6 hK6 => ?_
    refine AC_region ?_
    refine AL_ev (Ev_move) rfl ?_
    refine AL_hstay hT [2] [⟨35, LT, (injs xs).reverse.map V.d⟩] rfl cl66 (c_reverse (injs xs) (by intro x hx; rw [injs_map] at hx; obtain ⟨u, _, rfl⟩ := List.mem_map.1 hx; exact ⟨inj_len u, inj_isAgg u⟩) (by rw [injs_length]; omega)) ?_ rfl rfl rfl ?_ (by simp) ?_ [] .nil rfl ?_
    · exact .cons (.ref rfl) .nil
    · exact (BxI_cons rfl rfl rfl rfl rfl (VxL_d _) BxI_nil)
    · exact (BxP_cons rfl rfl (VxL_d _) rfl BxP_nil)
    refine AL_nil ?_
    refine hK6 _ _ _ ?_
    refine AC_seq fun K7 hK7 => ?_
    refine AC_region ?_
    refine AL_ev (Ev_move) rfl ?_
    refine AL_fcall0 hT rfl cl67 (c_atom nmNil) rfl rfl ?_
    refine AL_wk (Wk_to [some 1] [(2, .ptr LT 0 0 []), (17, .d (.sl LT (injs xs.reverse))), (18, .d (inj (.mk 2 nmNil 0 [])))] [some ⟨35, LT, [.d zT]⟩] rfl rfl (BxTo_some rfl rfl rfl rfl (.cons (.rd .d) .nil) BxTo_nil) (SlTo_cons (.ptr rfl) (SlTo_cons (.rd (.ref (srcFree rfl) rfl rfl (by simp) (ReadsL_eq (by simp [injs_map])))) (SlTo_cons (.rd .d) SlTo_nil))) ?_)
    refine AL_fcall0 hT rfl cl63 (hLO) rfl rfl ?_
    refine AL_alloc zo35 _ rfl rfl ?_
    first | refine AL_store rfl (nf rfl) rfl rfl rfl rfl rfl rfl (by first | rfl | assumption | simp [Lay.len, Lay.lens]) ts35 rfl rfl ?_ | refine AL_store rfl (nf rfl) rfl rfl rfl hes rfl rfl (by first | rfl | assumption | simp [Lay.len, Lay.lens]) ts35 rfl rfl ?_
    refine AL_nil ?_
    refine hK7 _ _ _ ?_
    refine AC_seq fun K8 hK8 => ?_
    refine AC_seq fun K9 hK9 => ?_
    refine AC_region ?_
    first | refine AL_ev (Ev_load_ptr rfl rfl rfl rfl rfl rfl ts35 ta35 (by first | rfl | assumption | simp) (by intro h; cases h)) rfl ?_ | refine AL_ev (Ev_load_rp rfl rfl rfl ts35 ta35 (by first | rfl | assumption | simp) (by intro h; cases h)) rfl ?_
    refine AL_fcall0 hT rfl cl40 (c_termOk (mkList xs.reverse) (by omega)) rfl rfl ?_
    refine AL_ev (Ev_not rfl) rfl ?_
    refine AL_nil ?_
    refine hK9 _ _ _ ?_
    refine AC_cond rfl (fun hc2 => ?_) (fun hc2 => ?_)
    · skip
      refine AC_seq fun K10 hK10 => ?_
      refine AC_region ?_
      refine AL_ev (Ev_build (fs := [.one, .one, .one, .one]) (zs := [.c (.int .i64 0), .c (.string ⟨#[]⟩), .c (.int .i64 0), .c (.slice none 0 0)]) tz35 rfl tpl35 .nil) rfl ?_
      first | refine AL_store rfl (nf rfl) rfl rfl rfl rfl rfl rfl (by first | rfl | assumption | simp [Lay.len, Lay.lens]) ts35 rfl rfl ?_ | refine AL_store rfl (nf rfl) rfl rfl rfl hes rfl rfl (by first | rfl | assumption | simp [Lay.len, Lay.lens]) ts35 rfl rfl ?_
      refine AL_ev (Ev_assign) rfl ?_
      refine AL_nil ?_
      refine hK10 _ _ _ ?_
      refine AC_ret ?_
      refine ret_ok hdm (.cell rfl rfl rfl rfl rfl rfl ts35 ta35 (by first | rfl | simp) (by intro h; cases h) (.tmp rfl rfl .nil)) (.cons (by first | exact .agg (.cons .d (.cons .d (.cons .d (.cons (.nil (l := LT)) .nil)))) | exact .d | exact .agg (.cons .d (.cons .d (.cons .d (.cons .d .nil))))) (.cons .d .nil)) ?_
      simp_all
      rfl
    · skip
      refine AC_skip ?_
      refine hK8 _ _ _ ?_
      refine AC_seq fun K11 hK11 => ?_
      refine AC_region ?_
      first | refine AL_ev (Ev_load_ptr rfl rfl rfl rfl rfl rfl ts35 ta35 (by first | rfl | assumption | simp) (by intro h; cases h)) rfl ?_ | refine AL_ev (Ev_load_rp rfl rfl rfl ts35 ta35 (by first | rfl | assumption | simp) (by intro h; cases h)) rfl ?_
      first | refine AL_store rfl (nf rfl) rfl rfl rfl rfl rfl rfl (by first | rfl | assumption | simp [Lay.len, Lay.lens]) ts35 rfl rfl ?_ | refine AL_store rfl (nf rfl) rfl rfl rfl hes rfl rfl (by first | rfl | assumption | simp [Lay.len, Lay.lens]) ts35 rfl rfl ?_
      refine AL_ev (Ev_assign) rfl ?_
      refine AL_nil ?_
      refine hK11 _ _ _ ?_
      refine AC_ret ?_
      refine ret_ok hdm (.cell rfl rfl rfl rfl rfl rfl ts35 ta35 (inj_isAgg _) (by intro h; cases h) (.tmp rfl rfl .nil)) (.cons .d (.cons .d .nil)) ?_
      simp_all

set_option maxHeartbeats 1000000 in
set_option maxRecDepth 4000 in
theorem c_backwardRaw (t : T) (xs : List T) (b1 : Bool) (h1 : Itm t xs b1) (hb : bulk t ≤ 1048576) (o : T) (ho : o = if b1 then mkList xs.reverse else term0) : PCall Try.prog 68 [inj t] (· = [inj o, .c (.bool b1)]) := by
  have hn1 := h1.bulk
  have hxn := bulkL_nn xs
  have hbo : bulk (mkList xs.reverse) ≤ 1099511627775 := by
    rw [← mkListE_nil, bulk_mkListE, bulk_leaf]
    have h9 : (nmNil.size : Int) = 2 := rfl
    rw [h9, bulkL_rev, List.length_reverse]
    omega
  subst ho
  refine PCall_of (n := 33) Try.func68 rfl rfl (Nat.le_of_ble_eq_true rfl) fun C hdm hT0 => ?_
  have hT := hT0
  refine AC_seq fun K1 hK1 => ?_
  refine AC_region ?_
  refine AL_box (Lay.st [.one, .one, .one, .one]) (nf rfl) rfl (by first | rfl | simp [Lay.len, Lay.lens]) _ rfl rfl ?_
  refine AL_alloc zo35 _ rfl rfl ?_
  refine AL_ev (Ev_assign) rfl ?_
  refine AL_nil ?_
  refine hK1 _ _ _ ?_
  refine AC_seq fun K2 hK2 => ?_
  refine AC_region ?_
  first | refine AL_ev (Ev_load_ptr rfl rfl rfl rfl rfl rfl ts35 ta35 (by first | rfl | assumption | simp) (by intro h; cases h)) rfl ?_ | refine AL_ev (Ev_load_rp rfl rfl rfl ts35 ta35 (by first | rfl | assumption | simp) (by intro h; cases h)) rfl ?_
  refine AL_fcall0 hT rfl cl24 ((c_specItemsOf t xs b1 h1 (by omega)).pcall rfl) rfl rfl ?_
  refine AL_ev (Ev_move) rfl ?_
  refine AL_ev (Ev_extract rfl rfl) rfl ?_
  refine AL_ev (Ev_extract rfl rfl) rfl ?_
  refine AL_ev (Ev_assign) rfl ?_
  refine AL_ev (Ev_assign) rfl ?_
  refine AL_nil ?_
  refine hK2 _ _ _ ?_
  refine AC_seq fun K3 hK3 => ?_
  refine AC_seq fun K4 hK4 => ?_
  refine AC_region ?_
  refine AL_ev (Ev_move) rfl ?_
  refine AL_ev (Ev_not rfl) rfl ?_
  refine AL_nil ?_
  refine hK4 _ _ _ ?_
  refine AC_cond rfl (fun hc1 => ?_) (fun hc1 => ?_)
  · skip
    have hb9 : b1 = false := by simpa using hc1
    refine AC_seq fun K5 hK5 => ?_
    refine AC_region ?_
    refine AL_ev (Ev_build (fs := [.one, .one, .one, .one]) (zs := [.c (.int .i64 0), .c (.string ⟨#[]⟩), .c (.int .i64 0), .c (.slice none 0 0)]) tz35 rfl tpl35 .nil) rfl ?_
    first | refine AL_store rfl (nf rfl) rfl rfl rfl rfl rfl rfl (by first | rfl | assumption | simp [Lay.len, Lay.lens]) ts35 rfl rfl ?_ | refine AL_store rfl (nf rfl) rfl rfl rfl hes rfl rfl (by first | rfl | assumption | simp [Lay.len, Lay.lens]) ts35 rfl rfl ?_
    refine AL_ev (Ev_assign) rfl ?_
    refine AL_nil ?_
    refine hK5 _ _ _ ?_
    refine AC_ret ?_
    refine ret_ok hdm (.cell rfl rfl rfl rfl rfl rfl ts35 ta35 (by first | rfl | simp) (by intro h; cases h) (.tmp rfl rfl .nil)) (.cons (by first | exact .agg (.cons .d (.cons .d (.cons .d (.cons (.nil (l := LT)) .nil)))) | exact .d | exact .agg (.cons .d (.cons .d (.cons .d (.cons .d .nil))))) (.cons .d .nil)) ?_
    simp_all
    rfl
  · skip
    have hb9 : b1 = true := by simpa using hc1
    refine AC_skip ?_
    refine hK3 _ _ _ ?_
    refine AC_seq fun K6 hK6 => ?_
    refine AC_region ?_
    refine AL_bV (Lay.st [.one, .one, .one, .one]) rfl te24 ts35 tz35 rfl rfl (by decide) (by decide) (by first | rfl | simp [lenDs, goodVs, goodV, V.known, Lay.len, Lay.lens]) _ rfl rfl ?_
    refine AL_ev (Ev_assign) rfl ?_
    refine AL_nil ?_
    refine hK6 _ _ _ ?_
    refine AC_seq fun K7 hK7 => ?_
    refine AC_seq fun K8 hK8 => ?_
    refine AC_region ?_
    refine AL_ev (Ev_move) rfl ?_
    first | refine AL_lim (x := (Operand.tmp 17)) rfl fun hl1 => ?_ | refine AL_limB (x := (Operand.tmp 17)) rfl rfl (by first | rfl | (simp; done) | (simp; omega)) fun hl1 => ?_ | have hl1 := True.intro
    try simp only [injs_length, ints_length, strs_length, injCs_length, u8s_length, List.length_map] at hl1
    first | refine AL_ev (Ev_len_injs te24 rfl) rfl ?_ | refine AL_ev (Ev_len_sl te24 rfl) rfl ?_ | refine AL_ev (Ev_len_ref te24 rfl) rfl ?_ | refine AL_ev (Ev_len_nil te24 rfl) rfl ?_ | refine AL_ev (Ev_len_c te24 rfl) rfl ?_
    first | refine AL_ev (Ev_sub rfl rfl _ (wrap_id (by first | omega | (simp; omega)) (by first | omega | (simp; omega)))) rfl ?_ | refine AL_ev (Ev_sub rfl rfl _ rfl) rfl ?_
    refine AL_ev (Ev_assign) rfl ?_
    refine AL_nil ?_
    refine hK8 _ _ _ ?_
    refine AC_block ?_
    refine AC_loopS [2, 4, 5] (Nat) (fun m => [(7, i64 ((m : Int) - 1)), (6, .ref LT 2 0 (xs.drop m).length)]) (fun m => [some ⟨35, LT, [.d (inj t)]⟩, some ⟨35, LT, [.d zT]⟩, some ⟨35, LT, (injs (xs.drop m).reverse).map V.d⟩]) (fun m => m) (fun m => m ≤ xs.length) (xs.length) ?_ ?_ ?_
    · skip
      exact enterS [some 0, some 1, some 2] rfl rfl (BxTo_some rfl rfl rfl rfl (.cons (.rd .d) .nil) (BxTo_some rfl rfl rfl rfl (.cons (.rd .d) .nil) (BxTo_some rfl rfl rfl rfl (VwL_of (by rw [List.drop_length]; rfl)) BxTo_nil))) (SlTo_cons (by first | exact .rd .d | exact .ptr rfl | exact .ref rfl | exact .any | exact Vw_int (by omega)) (SlTo_cons (Vw_refe rfl (by simp)) (SlTo_cons (by first | exact .rd .d | exact .ptr rfl | exact .ref rfl | exact .any | exact Vw_int (by omega)) (SlTo_cons (by first | exact .rd .d | exact .ptr rfl | exact .ref rfl | exact .any | exact Vw_int (by omega)) (SlTo_cons (by first | exact .rd .d | exact .ptr rfl | exact .ref rfl | exact .any | exact Vw_int (by omega)) SlTo_nil)))))
    · skip
      exact Nat.le_refl _
    intro m1 hm1
    refine AC_seq fun K9 hK9 => ?_
    refine AC_seq fun K10 hK10 => ?_
    refine AC_region ?_
    refine AL_ev (Ev_move) rfl ?_
    refine AL_ev (Ev_geq rfl rfl) rfl ?_
    refine AL_nil ?_
    refine hK10 _ _ _ ?_
    refine AC_cond rfl (fun hc2 => ?_) (fun hc2 => ?_)
    · skip
      have h7 : 0 < m1 := by have := of_decide_eq_true hc2; omega
      obtain ⟨m, rfl⟩ : ∃ m, m1 = m + 1 := ⟨m1 - 1, by omega⟩
      obtain ⟨u, hu⟩ : ∃ u, xs[m]? = some u := ⟨_, List.getElem?_eq_getElem (by omega)⟩
      have hu2 : (injs xs)[(((m + 1 : Nat) : Int) - 1).toNat]? = some (inj u) := by rw [show (((m + 1 : Nat) : Int) - 1).toNat = m by omega]; exact injs_get hu
      refine AC_skip ?_
      refine hK9 _ _ _ ?_
      refine AC_seq fun K11 hK11 => ?_
      refine AC_block ?_
      refine AC_region ?_
      refine AL_ev (Ev_move) rfl ?_
      refine AL_ev (Ev_move) rfl ?_
      refine AL_ev (Ev_move) rfl ?_
      first | refine AL_ev (Ev_ix_sl rfl rfl te24 ts35 (by omega) (by assumption)) rfl ?_ | refine AL_ev (Ev_ix_ref rfl rfl te24 ts35 (by omega) (by first | omega | (simp; omega))) rfl ?_
      first | refine AL_ev (Ev_load_ptr rfl rfl rfl rfl rfl rfl ts35 ta35 (by first | rfl | assumption | simp) (by intro h; cases h)) rfl ?_ | refine AL_ev (Ev_load_rp rfl rfl rfl ts35 ta35 (by first | rfl | assumption | simp) (by intro h; cases h)) rfl ?_
      first | refine AL_bD (Lay.st [.one, .one, .one, .one]) rfl te24 ts35 tz35 rfl rfl (by decide) (by decide) (by first | rfl | simp [lenDs, goodVs, goodV, V.known, Lay.len, Lay.lens]) rfl ?_ | refine AL_bV (Lay.st [.one, .one, .one, .one]) rfl te24 ts35 tz35 rfl rfl (by decide) (by decide) (by first | rfl | simp [lenDs, goodVs, goodV, V.known, Lay.len, Lay.lens]) _ rfl rfl ?_
      first | refine AL_append rfl rfl rfl te24 ts35 tz35 rfl tb35 (by decide) (by decide) rfl (by first | rfl | (simp; done) | (simp; omega)) (Src_sl rfl) (by simp only [lim]; first | omega | (simp; done) | (simp; omega)) _ rfl rfl ?_ | refine AL_append rfl rfl rfl te24 ts35 tz35 rfl tb35 (by decide) (by decide) rfl (by first | rfl | (simp; done) | (simp; omega)) (Src_ref rfl rfl rfl (by first | rfl | (simp; done) | (simp; omega))) (by simp only [lim]; first | omega | (simp; done) | (simp; omega)) _ rfl rfl ?_ | refine AL_append rfl rfl rfl te24 ts35 tz35 rfl tb35 (by decide) (by decide) rfl (by first | rfl | (simp; done) | (simp; omega)) (Src_nil rfl) (by simp only [lim]; first | omega | (simp; done) | (simp; omega)) _ rfl rfl ?_
      refine AL_ev (Ev_assign) rfl ?_
      refine AL_nil ?_
      refine hK11 _ _ _ ?_
      refine AC_region ?_
      refine AL_ev (Ev_move) rfl ?_
      first | refine AL_ev (Ev_sub rfl rfl _ (wrap_id (by first | omega | (simp; omega)) (by first | omega | (simp; omega)))) rfl ?_ | refine AL_ev (Ev_sub rfl rfl _ rfl) rfl ?_
      refine AL_ev (Ev_assign) rfl ?_
      refine AL_nil ?_
      refine closeS m [some 0, some 1, some 3] rfl rfl (by show m < m + 1; omega) (by show m ≤ xs.length; omega) (BxTo_some rfl rfl rfl rfl (.cons (.rd .d) .nil) (BxTo_some rfl rfl rfl rfl (.cons (.rd .d) .nil) (BxTo_some rfl rfl rfl rfl (VwL_app (by rw [List.drop_eq_getElem_cons (show m < xs.length by omega), List.reverse_cons]; simp [injs_map, (List.getElem?_eq_some_iff.1 hu).2])) BxTo_nil))) (SlTo_cons (Vw_int (by omega)) (SlTo_cons (Vw_refe rfl (by simp; omega)) (SlTo_cons (by first | exact .rd .d | exact .ptr rfl | exact .ref rfl | exact .any | exact Vw_int (by omega)) (SlTo_cons (by first | exact .rd .d | exact .ptr rfl | exact .ref rfl | exact .any | exact Vw_int (by omega)) (SlTo_cons (by first | exact .rd .d | exact .ptr rfl | exact .ref rfl | exact .any | exact Vw_int (by omega)) SlTo_nil)))))
    · skip
      have h7 : m1 = 0 := by have := of_decide_eq_false hc2; omega
      subst h7
      simp only [List.drop_zero]
      refine AC_exit ?_
      refine hK7 _ _ _ ?_
      refine AC_seq fun K12 hK12 => ?_
      refine AC_region ?_
      refine AL_ev (Ev_move) rfl ?_
      refine AL_wk (Wk_to [some 1] [(2, .ptr LT 0 0 []), (31, .d (.sl LT (injs xs.reverse)))] [some ⟨35, LT, [.d zT]⟩] rfl rfl (BxTo_some rfl rfl rfl rfl (.cons (.rd .d) .nil) BxTo_nil) (SlTo_cons (.ptr rfl) (SlTo_cons (.rd (.ref (srcFree rfl) rfl rfl (by simp) (ReadsL_eq (by simp [injs_map])))) SlTo_nil)) ?_)
      refine AL_fcall0 hT rfl cl85 (c_make21 xs.reverse) rfl rfl ?_
      first | refine AL_store rfl (nf rfl) rfl rfl rfl rfl rfl rfl (by first | rfl | assumption | simp [Lay.len, Lay.lens]) ts35 rfl rfl ?_ | refine AL_store rfl (nf rfl) rfl rfl rfl hes rfl rfl (by first | rfl | assumption | simp [Lay.len, Lay.lens]) ts35 rfl rfl ?_
      refine AL_ev (Ev_assign) rfl ?_
      refine AL_nil ?_
      refine hK12 _ _ _ ?_
      refine AC_ret ?_
      refine ret_ok hdm (.cell rfl rfl rfl rfl rfl rfl ts35 ta35 (inj_isAgg _) (by intro h; cases h) (.tmp rfl rfl .nil)) (.cons .d (.cons .d .nil)) ?_
      simp_all

set_option maxHeartbeats 1000000 in
set_option maxRecDepth 4000 in
theorem c_specBackward (t : T) (xs : List T) (b1 : Bool) (h1 : Itm t xs b1) (hb : bulk t ≤ 1048576) (o : T) (ho : o = if b1 then mkList xs.reverse else term0) : PCall Try.prog 31 [inj t] (· = [inj o, .c (.bool b1)]) := by
  refine PCall_of (n := 14) Try.func31 rfl rfl (Nat.le_of_ble_eq_true rfl) fun C hdm hT0 => ?_
  have hT := hT0
  refine AC_seq fun K1 hK1 => ?_
  refine AC_region ?_
  refine AL_box (Lay.st [.one, .one, .one, .one]) (nf rfl) rfl (by first | rfl | simp [Lay.len, Lay.lens]) _ rfl rfl ?_
  refine AL_alloc zo35 _ rfl rfl ?_
  refine AL_ev (Ev_assign) rfl ?_
  refine AL_nil ?_
  refine hK1 _ _ _ ?_
  refine AC_seq fun K2 hK2 => ?_
  refine AC_region ?_
  first | refine AL_ev (Ev_load_ptr rfl rfl rfl rfl rfl rfl ts35 ta35 (by first | rfl | assumption | simp) (by intro h; cases h)) rfl ?_ | refine AL_ev (Ev_load_rp rfl rfl rfl ts35 ta35 (by first | rfl | assumption | simp) (by intro h; cases h)) rfl ?_
  refine AL_fcall0 hT rfl cl68 (c_backwardRaw t xs b1 h1 hb o ho) rfl rfl ?_
  refine AL_ev (Ev_move) rfl ?_
  refine AL_ev (Ev_extract rfl rfl) rfl ?_
  refine AL_ev (Ev_extract rfl rfl) rfl ?_
  refine AL_alloc zo35 _ rfl rfl ?_
  first | refine AL_store rfl (nf rfl) rfl rfl rfl rfl rfl rfl (by first | rfl | assumption | simp [Lay.len, Lay.lens]) ts35 rfl rfl ?_ | refine AL_store rfl (nf rfl) rfl rfl rfl hes rfl rfl (by first | rfl | assumption | simp [Lay.len, Lay.lens]) ts35 rfl rfl ?_
  refine AL_ev (Ev_assign) rfl ?_
  refine AL_nil ?_
  refine hK2 _ _ _ ?_
  refine AC_seq fun K3 hK3 => ?_
  refine AC_region ?_
  first | refine AL_ev (Ev_load_ptr rfl rfl rfl rfl rfl rfl ts35 ta35 (by first | rfl | assumption | simp) (by intro h; cases h)) rfl ?_ | refine AL_ev (Ev_load_rp rfl rfl rfl ts35 ta35 (by first | rfl | assumption | simp) (by intro h; cases h)) rfl ?_
  refine AL_fcall0 hT rfl cl65 (c_l34Term o) rfl rfl ?_
  refine AL_ev (Ev_move) rfl ?_
  first | refine AL_store rfl (nf rfl) rfl rfl rfl rfl rfl rfl (by first | rfl | assumption | simp [Lay.len, Lay.lens]) ts35 rfl rfl ?_ | refine AL_store rfl (nf rfl) rfl rfl rfl hes rfl rfl (by first | rfl | assumption | simp [Lay.len, Lay.lens]) ts35 rfl rfl ?_
  refine AL_ev (Ev_assign) rfl ?_
  refine AL_nil ?_
  refine hK3 _ _ _ ?_
  refine AC_ret ?_
  exact ret_ok hdm (.cell rfl rfl rfl rfl rfl rfl ts35 ta35 (inj_isAgg _) (by intro h; cases h) (.tmp rfl rfl .nil)) (.cons .d (.cons .d .nil)) rfl

set_option maxHeartbeats 1000000 in
set_option maxRecDepth 4000 in
theorem c_listTerm (xs : List T) (hb : (xs.length : Int) + bulkL xs ≤ 1048576) : PCall Try.prog 33 [.sl LT (injs xs)] (· = [inj (if xs.length ≤ 400 ∧ okT (mkList xs) = true then mkList xs else atom0 nmNil)]) := by
  have hxn := bulkL_nn xs
  have hbo : bulk (mkList xs) ≤ 1099511627775 := by
    rw [← mkListE_nil, bulk_mkListE, bulk_leaf]
    have h9 : (nmNil.size : Int) = 2 := rfl
    rw [h9]
    omega
  have hLO : PCall Try.prog 63 [.sl LT (injs xs), inj (.mk 2 nmNil 0 [])] (· = [inj (mkList xs)]) := by have h9 := c_listOf xs (atom0 nmNil); rwa [mkListE_nil] at h9
  refine PCall_of (n := 16) Try.func33 rfl rfl (Nat.le_of_ble_eq_true rfl) fun C hdm hT0 => ?_
  have hT := hT0
  refine AC_seq fun K1 hK1 => ?_
  refine AC_region ?_
  refine AL_alloc zo35 _ rfl rfl ?_
  refine AL_nil ?_
  refine hK1 _ _ _ ?_
  refine AC_seq fun K2 hK2 => ?_
  refine AC_seq fun K3 hK3 => ?_
  refine AC_region ?_
  refine AL_ev (Ev_move) rfl ?_
  refine AL_fcall0 hT rfl cl67 (c_atom nmNil) rfl rfl ?_
  refine AL_fcall0 hT rfl cl63 (hLO) rfl rfl ?_
  refine AL_alloc zo35 _ rfl rfl ?_
  first | refine AL_store rfl (nf rfl) rfl rfl rfl rfl rfl rfl (by first | rfl | assumption | simp [Lay.len, Lay.lens]) ts35 rfl rfl ?_ | refine AL_store rfl (nf rfl) rfl rfl rfl hes rfl rfl (by first | rfl | assumption | simp [Lay.len, Lay.lens]) ts35 rfl rfl ?_
  refine AL_nil ?_
  refine hK3 _ _ _ ?_
  refine AC_seq fun K4 hK4 => ?_
  refine AC_region ?_
  refine AL_ev (Ev_move) rfl ?_
  first | refine AL_lim (x := (Operand.tmp 7)) rfl fun hl1 => ?_ | refine AL_limB (x := (Operand.tmp 7)) rfl rfl (by first | rfl | (simp; done) | (simp; omega)) fun hl1 => ?_ | have hl1 := True.intro
  try simp only [injs_length, ints_length, strs_length, injCs_length, u8s_length, List.length_map] at hl1
  first | refine AL_ev (Ev_len_injs te24 rfl) rfl ?_ | refine AL_ev (Ev_len_sl te24 rfl) rfl ?_ | refine AL_ev (Ev_len_ref te24 rfl) rfl ?_ | refine AL_ev (Ev_len_nil te24 rfl) rfl ?_ | refine AL_ev (Ev_len_c te24 rfl) rfl ?_
  refine AL_ev (Ev_leq rfl rfl) rfl ?_
  refine AL_ev (Ev_move) rfl ?_
  refine AL_bool 10 rfl (fun hg1 => ?_) (fun hg1 => ?_)
  · skip
    refine AL_guard_t rfl rfl rfl ?_
    first | refine AL_ev (Ev_load_ptr rfl rfl rfl rfl rfl rfl ts35 ta35 (by first | rfl | assumption | simp) (by intro h; cases h)) rfl ?_ | refine AL_ev (Ev_load_rp rfl rfl rfl ts35 ta35 (by first | rfl | assumption | simp) (by intro h; cases h)) rfl ?_
    refine AL_guard_t rfl rfl rfl ?_
    refine AL_fcall0 hT rfl cl40 (c_termOk (mkList xs) (by omega)) rfl rfl ?_
    refine AL_ev (Ev_pick rfl) rfl ?_
    refine AL_nil ?_
    refine hK4 _ _ _ ?_
    refine AC_cond rfl (fun hc2 => ?_) (fun hc2 => ?_)
    · skip
      refine AC_seq fun K5 hK5 => ?_
      refine AC_region ?_
      first | refine AL_ev (Ev_load_ptr rfl rfl rfl rfl rfl rfl ts35 ta35 (by first | rfl | assumption | simp) (by intro h; cases h)) rfl ?_ | refine AL_ev (Ev_load_rp rfl rfl rfl ts35 ta35 (by first | rfl | assumption | simp) (by intro h; cases h)) rfl ?_
      first | refine AL_store rfl (nf rfl) rfl rfl rfl rfl rfl rfl (by first | rfl | assumption | simp [Lay.len, Lay.lens]) ts35 rfl rfl ?_ | refine AL_store rfl (nf rfl) rfl rfl rfl hes rfl rfl (by first | rfl | assumption | simp [Lay.len, Lay.lens]) ts35 rfl rfl ?_
      refine AL_nil ?_
      refine hK5 _ _ _ ?_
      refine AC_ret ?_
      exact ret_ok hdm (.cell rfl rfl rfl rfl rfl rfl ts35 ta35 (by first | rfl | exact inj_isAgg _) (by intro h; cases h) .nil) (.cons .d .nil) (by first | (rw [if_pos (by first | (simp_all; done) | (simp_all; omega))]; done) | (rw [if_neg (by first | (simp_all; done) | (simp_all; omega))] <;> rfl))
    · skip
      refine AC_skip ?_
      refine hK2 _ _ _ ?_
      refine AC_seq fun K6 hK6 => ?_
      refine AC_region ?_
      refine AL_fcall0 hT rfl cl67 (c_atom nmNil) rfl rfl ?_
      first | refine AL_store rfl (nf rfl) rfl rfl rfl rfl rfl rfl (by first | rfl | assumption | simp [Lay.len, Lay.lens]) ts35 rfl rfl ?_ | refine AL_store rfl (nf rfl) rfl rfl rfl hes rfl rfl (by first | rfl | assumption | simp [Lay.len, Lay.lens]) ts35 rfl rfl ?_
      refine AL_nil ?_
      refine hK6 _ _ _ ?_
      refine AC_ret ?_
      exact ret_ok hdm (.cell rfl rfl rfl rfl rfl rfl ts35 ta35 (by first | rfl | exact inj_isAgg _) (by intro h; cases h) .nil) (.cons .d .nil) (by first | (rw [if_pos (by first | (simp_all; done) | (simp_all; omega))]; done) | (rw [if_neg (by first | (simp_all; done) | (simp_all; omega))] <;> rfl))
  · skip
    refine AL_guard_f rfl rfl rfl rfl ?_
    refine AL_guard_f rfl rfl rfl rfl ?_
    refine AL_ev (Ev_pick rfl) rfl ?_
    refine AL_nil ?_
    refine hK4 _ _ _ ?_
    first | refine AC_cond_f rfl ?_ | refine AC_cond_f (congrArg bl hc2) ?_
    refine AC_skip ?_
    refine hK2 _ _ _ ?_
    refine AC_seq fun K7 hK7 => ?_
    refine AC_region ?_
    refine AL_fcall0 hT rfl cl67 (c_atom nmNil) rfl rfl ?_
    first | refine AL_store rfl (nf rfl) rfl rfl rfl rfl rfl rfl (by first | rfl | assumption | simp [Lay.len, Lay.lens]) ts35 rfl rfl ?_ | refine AL_store rfl (nf rfl) rfl rfl rfl hes rfl rfl (by first | rfl | assumption | simp [Lay.len, Lay.lens]) ts35 rfl rfl ?_
    refine AL_nil ?_
    refine hK7 _ _ _ ?_
    refine AC_ret ?_
    exact ret_ok hdm (.cell rfl rfl rfl rfl rfl rfl ts35 ta35 (by first | rfl | exact inj_isAgg _) (by intro h; cases h) .nil) (.cons .d .nil) (by first | (rw [if_pos (by first | (simp_all; done) | (simp_all; omega))]; done) | (rw [if_neg (by first | (simp_all; done) | (simp_all; omega))] <;> rfl))

set_option maxHeartbeats 1000000 in
set_option maxRecDepth 4000 in
theorem c_listTermRaw (xs : List T) (hb : (xs.length : Int) + bulkL xs ≤ 1048576) : PCall Try.prog 69 [.sl LT (injs xs)] (· = [inj (if xs.length ≤ 400 ∧ okT (mkList xs) = true then mkList xs else atom0 nmNil)]) := by
  have hxn := bulkL_nn xs
  have hbo : bulk (mkList xs) ≤ 1099511627775 := by
    rw [← mkListE_nil, bulk_mkListE, bulk_leaf]
    have h9 : (nmNil.size : Int) = 2 := rfl
    rw [h9]
    omega
  refine PCall_of (n := 15) Try.func69 rfl rfl (Nat.le_of_ble_eq_true rfl) fun C hdm hT0 => ?_
  have hT := hT0
  refine AC_seq fun K1 hK1 => ?_
  refine AC_region ?_
  refine AL_alloc zo35 _ rfl rfl ?_
  refine AL_nil ?_
  refine hK1 _ _ _ ?_
  refine AC_seq fun K2 hK2 => ?_
  refine AC_seq fun K3 hK3 => ?_
  refine AC_region ?_
  refine AL_ev (Ev_move) rfl ?_
  first | refine AL_lim (x := (Operand.tmp 4)) rfl fun hl1 => ?_ | refine AL_limB (x := (Operand.tmp 4)) rfl rfl (by first | rfl | (simp; done) | (simp; omega)) fun hl1 => ?_ | have hl1 := True.intro
  try simp only [injs_length, ints_length, strs_length, injCs_length, u8s_length, List.length_map] at hl1
  first | refine AL_ev (Ev_len_injs te24 rfl) rfl ?_ | refine AL_ev (Ev_len_sl te24 rfl) rfl ?_ | refine AL_ev (Ev_len_ref te24 rfl) rfl ?_ | refine AL_ev (Ev_len_nil te24 rfl) rfl ?_ | refine AL_ev (Ev_len_c te24 rfl) rfl ?_
  refine AL_ev (Ev_gtr rfl rfl) rfl ?_
  refine AL_nil ?_
  refine hK3 _ _ _ ?_
  refine AC_cond rfl (fun hc1 => ?_) (fun hc1 => ?_)
  · skip
    refine AC_seq fun K4 hK4 => ?_
    refine AC_region ?_
    refine AL_fcall0 hT rfl cl91 (c_atom03 nmNil) rfl rfl ?_
    first | refine AL_store rfl (nf rfl) rfl rfl rfl rfl rfl rfl (by first | rfl | assumption | simp [Lay.len, Lay.lens]) ts35 rfl rfl ?_ | refine AL_store rfl (nf rfl) rfl rfl rfl hes rfl rfl (by first | rfl | assumption | simp [Lay.len, Lay.lens]) ts35 rfl rfl ?_
    refine AL_nil ?_
    refine hK4 _ _ _ ?_
    refine AC_ret ?_
    exact ret_ok hdm (.cell rfl rfl rfl rfl rfl rfl ts35 ta35 (by first | rfl | exact inj_isAgg _) (by intro h; cases h) .nil) (.cons .d .nil) (by first | (rw [if_pos (by first | (simp_all; done) | (simp_all; omega))]; done) | (rw [if_neg (by first | (simp_all; done) | (simp_all; omega))] <;> rfl))
  · skip
    refine AC_skip ?_
    refine hK2 _ _ _ ?_
    refine AC_seq fun K5 hK5 => ?_
    refine AC_region ?_
    refine AL_ev (Ev_move) rfl ?_
    refine AL_fcall0 hT rfl cl85 (c_make21 xs) rfl rfl ?_
    refine AL_alloc zo35 _ rfl rfl ?_
    first | refine AL_store rfl (nf rfl) rfl rfl rfl rfl rfl rfl (by first | rfl | assumption | simp [Lay.len, Lay.lens]) ts35 rfl rfl ?_ | refine AL_store rfl (nf rfl) rfl rfl rfl hes rfl rfl (by first | rfl | assumption | simp [Lay.len, Lay.lens]) ts35 rfl rfl ?_
    refine AL_nil ?_
    refine hK5 _ _ _ ?_
    refine AC_seq fun K6 hK6 => ?_
    refine AC_seq fun K7 hK7 => ?_
    refine AC_region ?_
    first | refine AL_ev (Ev_load_ptr rfl rfl rfl rfl rfl rfl ts35 ta35 (by first | rfl | assumption | simp) (by intro h; cases h)) rfl ?_ | refine AL_ev (Ev_load_rp rfl rfl rfl ts35 ta35 (by first | rfl | assumption | simp) (by intro h; cases h)) rfl ?_
    refine AL_fcall0 hT rfl cl51 (c_specTermOk (mkList xs) (by omega)) rfl rfl ?_
    refine AL_ev (Ev_not rfl) rfl ?_
    refine AL_nil ?_
    refine hK7 _ _ _ ?_
    refine AC_cond rfl (fun hc2 => ?_) (fun hc2 => ?_)
    · skip
      refine AC_seq fun K8 hK8 => ?_
      refine AC_region ?_
      refine AL_fcall0 hT rfl cl91 (c_atom03 nmNil) rfl rfl ?_
      first | refine AL_store rfl (nf rfl) rfl rfl rfl rfl rfl rfl (by first | rfl | assumption | simp [Lay.len, Lay.lens]) ts35 rfl rfl ?_ | refine AL_store rfl (nf rfl) rfl rfl rfl hes rfl rfl (by first | rfl | assumption | simp [Lay.len, Lay.lens]) ts35 rfl rfl ?_
      refine AL_nil ?_
      refine hK8 _ _ _ ?_
      refine AC_ret ?_
      exact ret_ok hdm (.cell rfl rfl rfl rfl rfl rfl ts35 ta35 (by first | rfl | exact inj_isAgg _) (by intro h; cases h) .nil) (.cons .d .nil) (by first | (rw [if_pos (by first | (simp_all; done) | (simp_all; omega))]; done) | (rw [if_neg (by first | (simp_all; done) | (simp_all; omega))] <;> rfl))
    · skip
      refine AC_skip ?_
      refine hK6 _ _ _ ?_
      refine AC_seq fun K9 hK9 => ?_
      refine AC_region ?_
      first | refine AL_ev (Ev_load_ptr rfl rfl rfl rfl rfl rfl ts35 ta35 (by first | rfl | assumption | simp) (by intro h; cases h)) rfl ?_ | refine AL_ev (Ev_load_rp rfl rfl rfl ts35 ta35 (by first | rfl | assumption | simp) (by intro h; cases h)) rfl ?_
      first | refine AL_store rfl (nf rfl) rfl rfl rfl rfl rfl rfl (by first | rfl | assumption | simp [Lay.len, Lay.lens]) ts35 rfl rfl ?_ | refine AL_store rfl (nf rfl) rfl rfl rfl hes rfl rfl (by first | rfl | assumption | simp [Lay.len, Lay.lens]) ts35 rfl rfl ?_
      refine AL_nil ?_
      refine hK9 _ _ _ ?_
      refine AC_ret ?_
      exact ret_ok hdm (.cell rfl rfl rfl rfl rfl rfl ts35 ta35 (by first | rfl | exact inj_isAgg _) (by intro h; cases h) .nil) (.cons .d .nil) (by first | (rw [if_pos (by first | (simp_all; done) | (simp_all; omega))]; done) | (rw [if_neg (by first | (simp_all; done) | (simp_all; omega))] <;> rfl))

set_option maxHeartbeats 1000000 in
set_option maxRecDepth 4000 in
theorem c_specListTerm (xs : List T) (hb : (xs.length : Int) + bulkL xs ≤ 1048576) : PCall Try.prog 34 [.sl LT (injs xs)] (· = [inj (if xs.length ≤ 400 ∧ okT (mkList xs) = true then mkList xs else atom0 nmNil)]) := by
  refine PCall_of (n := 8) Try.func34 rfl rfl (Nat.le_of_ble_eq_true rfl) fun C hdm hT0 => ?_
  have hT := hT0
  refine AC_seq fun K1 hK1 => ?_
  refine AC_region ?_
  refine AL_alloc zo35 _ rfl rfl ?_
  refine AL_nil ?_
  refine hK1 _ _ _ ?_
  refine AC_seq fun K2 hK2 => ?_
  refine AC_region ?_
  refine AL_ev (Ev_move) rfl ?_
  refine AL_fcall0 hT rfl cl69 (c_listTermRaw xs hb) rfl rfl ?_
  refine AL_alloc zo35 _ rfl rfl ?_
  first | refine AL_store rfl (nf rfl) rfl rfl rfl rfl rfl rfl (by first | rfl | assumption | simp [Lay.len, Lay.lens]) ts35 rfl rfl ?_ | refine AL_store rfl (nf rfl) rfl rfl rfl hes rfl rfl (by first | rfl | assumption | simp [Lay.len, Lay.lens]) ts35 rfl rfl ?_
  refine AL_nil ?_
  refine hK2 _ _ _ ?_
  refine AC_seq fun K3 hK3 => ?_
  refine AC_region ?_
  first | refine AL_ev (Ev_load_ptr rfl rfl rfl rfl rfl rfl ts35 ta35 (by first | rfl | assumption | simp) (by intro h; cases h)) rfl ?_ | refine AL_ev (Ev_load_rp rfl rfl rfl ts35 ta35 (by first | rfl | assumption | simp) (by intro h; cases h)) rfl ?_
  refine AL_fcall0 hT rfl cl65 (c_l34Term _) rfl rfl ?_
  first | refine AL_store rfl (nf rfl) rfl rfl rfl rfl rfl rfl (by first | rfl | assumption | simp [Lay.len, Lay.lens]) ts35 rfl rfl ?_ | refine AL_store rfl (nf rfl) rfl rfl rfl hes rfl rfl (by first | rfl | assumption | simp [Lay.len, Lay.lens]) ts35 rfl rfl ?_
  refine AL_nil ?_
  refine hK3 _ _ _ ?_
  refine AC_ret ?_
  exact ret_ok hdm (.cell rfl rfl rfl rfl rfl rfl ts35 ta35 (by first | rfl | exact inj_isAgg _) (by intro h; cases h) .nil) (.cons .d .nil) rfl

set_option maxHeartbeats 1000000 in
set_option maxRecDepth 4000 in
theorem c_specTermIn (ks : List T) (t : T) : PCall Try.prog 35 [.sl LT (injs ks), inj t] (· = [.c (.int .i64 (idxB (fun x => sameB x t) ks 0))]) := by
  refine PCall_of (n := 19) Try.func35 rfl rfl (Nat.le_of_ble_eq_true rfl) fun C hdm hT0 => ?_
  have hT := hT0
  refine AC_seq fun K1 hK1 => ?_
  refine AC_region ?_
  refine AL_box (Lay.st [.one, .one, .one, .one]) (nf rfl) rfl (by first | rfl | simp [Lay.len, Lay.lens]) _ rfl rfl ?_
  refine AL_ev (Ev_assign) rfl ?_
  refine AL_nil ?_
  refine hK1 _ _ _ ?_
  refine AC_seq fun K2 hK2 => ?_
  refine AC_seq fun K3 hK3 => ?_
  refine AC_region ?_
  refine AL_ev (Ev_assign) rfl ?_
  refine AL_nil ?_
  refine hK3 _ _ _ ?_
  refine AC_block ?_
  refine AC_loopS [0] (Nat) (fun j => [(5, i64 j), (3, .d (.rp (Lay.st [.one, .one, .one, .one]) (inj t) []))]) (fun j => []) (fun st => ks.length - st) (fun j => j ≤ ks.length ∧ idxB (fun x => sameB x t) ks 0 = idxB (fun x => sameB x t) (ks.drop j) j) (0) ?_ ?_ ?_
  · skip
    exact enterS [] rfl rfl BxTo_nil (SlTo_cons (by first | exact .rd .d | exact Vw_int (by first | rfl | assumption | omega | (simp; done) | (simp; omega)) | exact Vw_c (by first | rfl | (simp; done) | simp_all) | exact .any) (SlTo_cons (by first | exact .rd (.ptr (srcFree rfl) rfl rfl rfl .d) | exact .rd .d) (SlTo_cons (by first | exact .rd .d | exact .any) SlTo_nil)))
  · skip
    exact ⟨Nat.zero_le _, by simp⟩
  rintro j ⟨hj, hI⟩
  show AC _ _ _ _ _ (FS [0] _ [(5, i64 j), (3, .d (.rp (Lay.st [.one, .one, .one, .one]) (inj t) []))]) []
  refine AC_seq fun K4 hK4 => ?_
  refine AC_seq fun K5 hK5 => ?_
  refine AC_region ?_
  refine AL_ev (Ev_move) rfl ?_
  refine AL_ev (Ev_move) rfl ?_
  first | refine AL_lim (x := (Operand.tmp 7)) rfl fun hl1 => ?_ | refine AL_limB (x := (Operand.tmp 7)) rfl rfl (by first | rfl | (simp; done) | (simp; omega)) fun hl1 => ?_ | have hl1 := True.intro
  try simp only [injs_length, ints_length, strs_length, injCs_length, u8s_length, List.length_map] at hl1
  first | refine AL_ev (Ev_len_injs te24 rfl) rfl ?_ | refine AL_ev (Ev_len_sl te24 rfl) rfl ?_ | refine AL_ev (Ev_len_ref te24 rfl) rfl ?_ | refine AL_ev (Ev_len_nil te24 rfl) rfl ?_ | refine AL_ev (Ev_len_c te24 rfl) rfl ?_
  refine AL_ev (Ev_lss rfl rfl) rfl ?_
  refine AL_nil ?_
  refine hK5 _ _ _ ?_
  refine AC_cond rfl (fun hc1 => ?_) (fun hc1 => ?_)
  · skip
    have hlt : j < ks.length := by simpa using hc1
    obtain ⟨u, hu⟩ : ∃ x, ks[j]? = some x := ⟨_, List.getElem?_eq_getElem hlt⟩
    have hu2 := injs_get hu
    have hdr := drop_get hu
    refine AC_skip ?_
    refine hK4 _ _ _ ?_
    refine AC_seq fun K6 hK6 => ?_
    refine AC_block ?_
    refine AC_seq fun K7 hK7 => ?_
    refine AC_draw hT follows [0, 1, 2, 3, 4, 5] (by kernel_rfl) ?_
    refine DT_ev rfl (EA_move) rfl ?_
    refine DT_ev rfl (EA_move) rfl ?_
    first | refine DT_ev rfl (EA_ix_sl rfl rfl te24 ts35 (by omega) (by assumption)) rfl ?_ | refine DT_ev rfl (EA_ix_ref rfl rfl te24 ts35 (by omega) (by first | omega | (simp; omega))) rfl ?_
    first | refine DT_ev rfl (EA_load_ptr rfl rfl rfl rfl rfl rfl ts35 ta35 (by first | rfl | assumption | simp) (by intro h; cases h)) rfl ?_ | refine DT_ev rfl (EA_load_rp rfl rfl rfl ts35 ta35 (by first | rfl | assumption | simp) (by intro h; cases h)) rfl ?_
    first | refine DT_ev rfl (EA_load_ptr rfl rfl rfl rfl rfl rfl ts35 ta35 (by first | rfl | assumption | simp) (by intro h; cases h)) rfl ?_ | refine DT_ev rfl (EA_load_rp rfl rfl rfl ts35 ta35 (by first | rfl | assumption | simp) (by intro h; cases h)) rfl ?_
    refine DT_fcall0 rfl rfl cl32 (c_specSameTerm u t rfl) rfl rfl ?_
    refine DTi.nil ?_
    refine hK7 _ _ _ ?_
    refine AC_cond rfl (fun hc2 => ?_) (fun hc2 => ?_)
    · skip
      refine AC_seq fun K8 hK8 => ?_
      refine AC_region ?_
      refine AL_ev (Ev_move) rfl ?_
      refine AL_ev (Ev_assign) rfl ?_
      refine AL_nil ?_
      refine hK8 _ _ _ ?_
      refine AC_ret ?_
      refine ret_ok hdm (.tmp rfl rfl .nil) (.cons .d .nil) ?_
      try rw [hI]
      try rw [hdr]
      try simp_all [List.length_pos_iff, idxB]
      try omega
    · skip
      refine AC_skip ?_
      refine hK6 _ _ _ ?_
      refine AC_region ?_
      refine AL_ev (Ev_move) rfl ?_
      first | refine AL_ev (Ev_add rfl rfl _ (wrap_id (by first | omega | (simp; omega)) (by first | omega | (simp; omega)))) rfl ?_ | refine AL_ev (Ev_add rfl rfl _ rfl) rfl ?_
      refine AL_ev (Ev_assign) rfl ?_
      refine AL_nil ?_
      refine closeS (j + 1) [] rfl rfl (by show ks.length - (j + 1) < ks.length - j; omega) ⟨hlt, ?_⟩ BxTo_nil (SlTo_cons (by first | exact .rd .d | exact Vw_int (by first | rfl | assumption | omega | (simp; done) | (simp; omega)) | exact Vw_c (by first | rfl | (simp; done) | simp_all) | exact .any) (SlTo_cons (by first | exact .rd (.ptr (srcFree rfl) rfl rfl rfl .d) | exact .rd .d) (SlTo_cons (by first | exact .rd .d | exact .any) SlTo_nil)))
      rw [hI]
      try rw [hdr]
      try simp_all [idxB]
      try omega
  · skip
    have hj2 : j = ks.length := by
      have : ¬ j < ks.length := by simpa using hc1
      omega
    subst hj2
    rw [List.drop_length] at hI
    refine AC_exit ?_
    refine hK2 _ _ _ ?_
    refine AC_seq fun K9 hK9 => ?_
    refine AC_region ?_
    refine AL_ev (Ev_assign) rfl ?_
    refine AL_nil ?_
    refine hK9 _ _ _ ?_
    refine AC_ret ?_
    refine ret_ok hdm (.tmp rfl rfl .nil) (.cons .d .nil) ?_
    try rw [hI]
    try rw [hdr]
    try simp_all [List.length_pos_iff, idxB]
    try omega

end Go.Proofs.Ytjhdkjacfclipaa
