/- Contracts of functions. -/
import Derived.Test.YtjhdkjacfclipaaMt
import Derived.Test.YtjhdkjacfclipaaOk
import Derived.Test.YtjhdkjacfclipaaWn
import Derived.Test.YtjhdkjacfclipaaEng27
import Derived.Test.YtjhdkjacfclipaaSl
import Derived.Test.YtjhdkjacfclipaaProg
import Derived.KernelRfl
import Derived.Test.YtjhdkjacfclipaaCA
import Derived.Test.YtjhdkjacfclipaaCB
import Derived.Test.YtjhdkjacfclipaaCO
import Derived.Test.YtjhdkjacfclipaaCT
import Derived.Test.YtjhdkjacfclipaaCU
set_option linter.unusedVariables false
set_option linter.unusedSimpArgs false
namespace Go.Proofs.Ytjhdkjacfclipaa
open Go.Eng

theorem cl40 : Callable Try.prog 40 := Callable_of Try.func40 (by kernel_rfl) (by kernel_rfl)
theorem cl41 : Callable Try.prog 41 := Callable_of Try.func41 (by kernel_rfl) (by kernel_rfl)
theorem cl42 : Callable Try.prog 42 := Callable_of Try.func42 (by kernel_rfl) (by kernel_rfl)
theorem cl73 : Callable Try.prog 73 := Callable_of Try.func73 (by kernel_rfl) (by kernel_rfl)
theorem cl94 : Callable Try.prog 94 := Callable_of Try.func94 (by kernel_rfl) (by kernel_rfl)

set_option maxHeartbeats 4000000 in
set_option maxRecDepth 4000 in
theorem c_stable (pool : List (D × D)) (ps : List TD) (hel : ∀ p ∈ ps, PL pool p) (hl : ps.length ≤ 1099511627776) : HCallE Try.prog 73 pool [.ref LT 0 0 (dsP ps).length, i64 ps.length, .d (.fn 43 [])] [⟨35, LT, (dsP ps).map V.d⟩] 1 (fun ys : List TD => ys.Perm ps ∧ SrtP ys) (fun ys : List TD => [⟨35, LT, (dsP ys).map V.d⟩]) := by
  refine HCallE_of (n := 63) Try.func73 rfl rfl (Nat.le_of_ble_eq_true rfl) (Nat.le_of_ble_eq_true rfl) fun C0 o hT hP => ?_
  refine AC_seq fun K1 hK1 => ?_
  refine AC_region ?_
  refine AL_ev (Ev_assign) rfl ?_
  refine AL_nil ?_
  refine hK1 _ _ _ ?_
  refine AC_seq fun K2 hK2 => ?_
  refine AC_region ?_
  refine AL_ev (Ev_move) rfl ?_
  refine AL_ev (Ev_assign) rfl ?_
  refine AL_ev (Ev_assign) rfl ?_
  refine AL_nil ?_
  refine hK2 _ _ _ ?_
  refine AC_seq fun K3 hK3 => ?_
  refine AC_block ?_
  refine AC_loopS [1, 2, 6] (Nat × Nat × List TD) (fun ⟨a, b, cur⟩ => [(7, i64 ((a : Nat) : Int)), (8, i64 ((b : Nat) : Int)), (0, .ref LT 0 0 (dsP cur).length)]) (fun ⟨a, b, cur⟩ => [some ⟨⟨35, some (o 0)⟩, LT, (dsP cur).map V.d⟩]) (fun st => ps.length + 1 - st.1) (fun ⟨a, b, cur⟩ => (b = a + 20 ∧ cur.Perm ps ∧ ∃ (bl : List (List TD)) (rs : List TD), cur = bl.flatten ++ rs ∧ Bks 20 bl ∧ bl.flatten.length = a)) ((0, 20, ps)) ?_ ?_ ?_
  · skip
    exact enterS [some 0] rfl rfl (BxTo_some rfl rfl rfl rfl (by first | exact .nil | exact VwL_dd (by first | rfl | simp) | exact VwL_app (by first | rfl | simp) | exact VwL_of (by first | rfl | simp)) BxTo_nil) (SlTo_cons (by first | exact .rd .d | exact Vw_int (by first | rfl | assumption | omega | (simp; done) | (simp; omega)) | exact Vw_c (by first | rfl | (simp; done) | simp_all) | exact .any) (SlTo_cons (by first | exact .rd .d | exact Vw_int (by first | rfl | assumption | omega | (simp; done) | (simp; omega)) | exact Vw_c (by first | rfl | (simp; done) | simp_all) | exact .any) (SlTo_cons (Vw_refe rfl (by first | rfl | (rw [dsP_length, dsP_length]; omega))) (SlTo_cons (by first | exact .rd .d | exact .any) (SlTo_cons (by first | exact .rd .d | exact .any) (SlTo_cons (by first | exact .rd .d | exact .any) SlTo_nil))))))
  · skip
    exact ⟨rfl, .refl _, [], ps, by simp, Bks.nil, rfl⟩
  rintro ⟨a, b, cur⟩ ⟨hb, hpm, bl, rs, hcur, hbl, hal⟩
  show AC _ _ _ _ _ (FS [1, 2, 6] _ [(7, i64 ((a : Nat) : Int)), (8, i64 ((b : Nat) : Int)), (0, .ref LT 0 0 (dsP cur).length)]) [some ⟨⟨35, some (o 0)⟩, LT, (dsP cur).map V.d⟩]
  have hcl : cur.length = ps.length := hpm.length_eq
  have hrl : bl.flatten.length + rs.length = ps.length := by rw [← hcl, hcur, List.length_append]
  refine AC_seq fun K4 hK4 => ?_
  refine AC_seq fun K5 hK5 => ?_
  refine AC_region ?_
  refine AL_ev (Ev_move) rfl ?_
  refine AL_ev (Ev_move) rfl ?_
  refine AL_ev (Ev_leq rfl rfl) rfl ?_
  refine AL_nil ?_
  refine hK5 _ _ _ ?_
  refine AC_cond rfl (fun hc1 => ?_) (fun hc1 => ?_)
  · skip
    have h1 : b ≤ ps.length := by have := of_decide_eq_true hc1; omega
    have hsp : cur = bl.flatten ++ rs.take 20 ++ rs.drop 20 := by rw [hcur, List.append_assoc, List.take_append_drop]
    have hel1 : ∀ p ∈ rs.take 20, PL pool p := fun p hp => hel p (hpm.mem_iff.1 (by rw [hcur]; exact List.mem_append_right _ (List.mem_of_mem_take hp)))
    have hl1 : (bl.flatten ++ rs.take 20 ++ rs.drop 20).length ≤ 1099511627776 := by rw [← hsp, hcl]; exact hl
    have h20 : (rs.take 20).length = 20 := by simp only [List.length_take]; omega
    refine AC_skip ?_
    refine hK4 _ _ _ ?_
    refine AC_block ?_
    refine AC_seq fun K6 hK6 => ?_
    refine AC_region ?_
    refine AL_ev (Ev_move) rfl ?_
    refine AL_ev (Ev_move) rfl ?_
    refine AL_ev (Ev_move) rfl ?_
    refine AL_ev (Ev_move) rfl ?_
    refine AL_hstE hT hP [0] (fun ys => [⟨⟨35, some (o 0)⟩, LT, (dsP ys).map V.d⟩]) rfl cl94 (c_insertionSort pool bl.flatten (rs.take 20) (rs.drop 20) hel1 hl1) ?_ rfl rfl rfl ?_ (fun _ _ => rfl) ?_ rfl fun nx hnx => ?_
    · exact .cons (Vx_refe rfl (by rw [hsp])) (.cons (Vx_int (by first | omega | (simp; omega))) (.cons (Vx_int (by first | omega | (simp; omega))) (.cons .d .nil)))
    · exact BxI_cons rfl rfl rfl rfl rfl (VxL_ds (by rw [hsp])) BxI_nil
    · exact fun _ _ => BxP_keep rfl rfl (VxL_d _) rfl rfl BxP_nil
    obtain ⟨X, rfl, hX, sX⟩ := hnx
    have hXl : X.length = 20 := by rw [hX.length_eq, h20]
    have hnp : (bl.flatten ++ X ++ rs.drop 20).Perm ps := by
      refine List.Perm.trans ?_ (hsp ▸ hpm)
      exact (hX.append_left _).append_right _
    have hnl := hnp.length_eq
    refine AL_nil ?_
    refine hK6 _ _ _ ?_
    refine AC_seq fun K7 hK7 => ?_
    refine AC_region ?_
    refine AL_ev (Ev_move) rfl ?_
    refine AL_ev (Ev_assign) rfl ?_
    refine AL_nil ?_
    refine hK7 _ _ _ ?_
    refine AC_region ?_
    refine AL_ev (Ev_move) rfl ?_
    refine AL_ev (Ev_move) rfl ?_
    first | refine AL_ev (Ev_add rfl rfl _ (wrap_id (by first | omega | (simp; omega)) (by first | omega | (simp; omega)))) rfl ?_ | refine AL_ev (Ev_add rfl rfl _ rfl) rfl ?_
    refine AL_ev (Ev_assign) rfl ?_
    refine AL_nil ?_
    refine closeS (b, b + 20, bl.flatten ++ X ++ rs.drop 20) [some 0] rfl rfl (by show ps.length + 1 - b < ps.length + 1 - a; omega) ?_ (BxTo_some rfl rfl rfl rfl (by first | exact VwL_app (by first | rfl | simp [ints, strs] | simp [ints, strs, injs_map]) | exact VwL_dd (by first | rfl | simp [ints, strs] | simp [ints, strs, injs_map]) | exact VwL_of (by first | rfl | simp [ints, strs] | simp [ints, strs, injs_map])) BxTo_nil) (SlTo_cons (by first | exact .rd .d | exact Vw_int (by first | rfl | assumption | omega | (simp; done) | (simp; omega)) | exact Vw_c (by first | rfl | (simp; done) | simp_all) | exact .any) (SlTo_cons (by first | exact .rd .d | exact Vw_int (by first | rfl | assumption | omega | (simp; done) | (simp; omega)) | exact Vw_c (by first | rfl | (simp; done) | simp_all) | exact .any) (SlTo_cons (Vw_refe rfl (by first | rfl | (rw [dsP_length, dsP_length]; omega))) (SlTo_cons (by first | exact .rd .d | exact .any) (SlTo_cons (by first | exact .rd .d | exact .any) (SlTo_cons (by first | exact .rd .d | exact .any) SlTo_nil))))))
    exact ⟨rfl, hnp, bl ++ [X], rs.drop 20, by simp, hbl.snoc hXl sX, by rw [List.flatten_append, List.length_append]; simp only [List.flatten_cons, List.flatten_nil, List.append_nil]; omega⟩
  · skip
    have h1 : ps.length < b := by have := of_decide_eq_false hc1; omega
    have hsp : cur = bl.flatten ++ rs ++ [] := by rw [hcur, List.append_nil]
    have hel1 : ∀ p ∈ rs, PL pool p := fun p hp => hel p (hpm.mem_iff.1 (by rw [hcur]; exact List.mem_append_right _ hp))
    have hl1 : (bl.flatten ++ rs ++ []).length ≤ 1099511627776 := by rw [← hsp, hcl]; exact hl
    refine AC_exit ?_
    refine hK3 _ _ _ ?_
    refine AC_seq fun K8 hK8 => ?_
    refine AC_region ?_
    refine AL_ev (Ev_move) rfl ?_
    refine AL_ev (Ev_move) rfl ?_
    refine AL_ev (Ev_move) rfl ?_
    refine AL_ev (Ev_move) rfl ?_
    refine AL_hstE hT hP [0] (fun ys => [⟨⟨35, some (o 0)⟩, LT, (dsP ys).map V.d⟩]) rfl cl94 (c_insertionSort pool bl.flatten rs [] hel1 hl1) ?_ rfl rfl rfl ?_ (fun _ _ => rfl) ?_ rfl fun nx hnx => ?_
    · exact .cons (Vx_refe rfl (by rw [hsp])) (.cons (Vx_int (by first | omega | (simp; omega))) (.cons (Vx_int (by first | omega | (simp; omega))) (.cons .d .nil)))
    · exact BxI_cons rfl rfl rfl rfl rfl (VxL_ds (by rw [hsp])) BxI_nil
    · exact fun _ _ => BxP_keep rfl rfl (VxL_d _) rfl rfl BxP_nil
    obtain ⟨Y, rfl, hY, sY⟩ := hnx
    have hnp : (bl.flatten ++ Y ++ []).Perm ps := by
      refine List.Perm.trans ?_ (hsp ▸ hpm)
      exact (hY.append_left _).append_right _
    have hnl := hnp.length_eq
    refine AL_nil ?_
    refine hK8 _ _ _ ?_
    refine AC_block ?_
    refine AC_loopS [1, 2] (Nat × List TD) (fun ⟨k, cur3⟩ => [(6, i64 ((k : Nat) : Int)), (0, .ref LT 0 0 (dsP cur3).length)]) (fun ⟨k, cur3⟩ => [some ⟨⟨35, some (o 0)⟩, LT, (dsP cur3).map V.d⟩]) (fun st => ps.length - st.1) (fun ⟨k, cur3⟩ => (20 ≤ k ∧ k ≤ 20 + 2 * ps.length ∧ cur3.Perm ps ∧ BlkS k cur3)) ((20, bl.flatten ++ Y ++ [])) ?_ ?_ ?_
    · skip
      exact enterS [some 0] rfl rfl (BxTo_some rfl rfl rfl rfl (by first | exact .nil | exact VwL_dd (by first | rfl | simp) | exact VwL_app (by first | rfl | simp) | exact VwL_of (by first | rfl | simp)) BxTo_nil) (SlTo_cons (by first | exact .rd .d | exact Vw_int (by first | rfl | assumption | omega | (simp; done) | (simp; omega)) | exact Vw_c (by first | rfl | (simp; done) | simp_all) | exact .any) (SlTo_cons (Vw_refe rfl (by first | rfl | (rw [dsP_length, dsP_length]; omega))) (SlTo_cons (by first | exact .rd .d | exact .any) (SlTo_cons (by first | exact .rd .d | exact .any) SlTo_nil))))
    · skip
      exact ⟨Nat.le_refl _, by omega, hnp, bl, Y, by simp, hbl, sY, by rw [hY.length_eq]; omega⟩
    rintro ⟨k, cur3⟩ ⟨hk, hk9, hpm, hblk⟩
    show AC _ _ _ _ _ (FS [1, 2] _ [(6, i64 ((k : Nat) : Int)), (0, .ref LT 0 0 (dsP cur3).length)]) [some ⟨⟨35, some (o 0)⟩, LT, (dsP cur3).map V.d⟩]
    have hcl : cur3.length = ps.length := hpm.length_eq
    refine AC_seq fun K9 hK9 => ?_
    refine AC_seq fun K10 hK10 => ?_
    refine AC_region ?_
    refine AL_ev (Ev_move) rfl ?_
    refine AL_ev (Ev_move) rfl ?_
    refine AL_ev (Ev_lss rfl rfl) rfl ?_
    refine AL_nil ?_
    refine hK10 _ _ _ ?_
    refine AC_cond rfl (fun hc2 => ?_) (fun hc2 => ?_)
    · skip
      have hkN : k < ps.length := by have := of_decide_eq_true hc2; omega
      refine AC_skip ?_
      refine hK9 _ _ _ ?_
      refine AC_block ?_
      refine AC_seq fun K11 hK11 => ?_
      refine AC_region ?_
      refine AL_ev (Ev_move) rfl ?_
      first | refine AL_ev (Ev_mul rfl rfl _ (wrap_id (by first | omega | (simp; omega)) (by first | omega | (simp; omega)))) rfl ?_ | refine AL_ev (Ev_mul rfl rfl _ rfl) rfl ?_
      refine AL_ev (Ev_assign) rfl ?_
      refine AL_ev (Ev_assign) rfl ?_
      refine AL_nil ?_
      refine hK11 _ _ _ ?_
      refine AC_seq fun K12 hK12 => ?_
      refine AC_block ?_
      refine AC_loopS [1, 2, 6] (Nat × Nat × List TD) (fun ⟨a, b, cur4⟩ => [(7, i64 ((a : Nat) : Int)), (8, i64 ((b : Nat) : Int)), (0, .ref LT 0 0 (dsP cur4).length)]) (fun ⟨a, b, cur4⟩ => [some ⟨⟨35, some (o 0)⟩, LT, (dsP cur4).map V.d⟩]) (fun st => ps.length + 1 - st.1) (fun ⟨a, b, cur4⟩ => (b = a + 2 * k ∧ a ≤ ps.length ∧ cur4.Perm ps ∧ ∃ (done todo : List (List TD)) (la : List TD), cur4 = done.flatten ++ (todo.flatten ++ la) ∧ Bks (k * 2) done ∧ Bks k todo ∧ SrtP la ∧ la.length < k ∧ done.flatten.length = a)) ((0, 2 * k, cur3)) ?_ ?_ ?_
      · skip
        exact enterS [some 0] rfl rfl (BxTo_some rfl rfl rfl rfl (by first | exact .nil | exact VwL_dd (by first | rfl | simp) | exact VwL_app (by first | rfl | simp) | exact VwL_of (by first | rfl | simp)) BxTo_nil) (SlTo_cons (by first | exact .rd .d | exact Vw_int (by first | rfl | assumption | omega | (simp; done) | (simp; omega)) | exact Vw_c (by first | rfl | (simp; done) | simp_all) | exact .any) (SlTo_cons (by first | exact .rd .d | exact Vw_int (by first | rfl | assumption | omega | (simp; done) | (simp; omega)) | exact Vw_c (by first | rfl | (simp; done) | simp_all) | exact .any) (SlTo_cons (Vw_refe rfl (by first | rfl | (rw [dsP_length, dsP_length]; omega))) (SlTo_cons (by first | exact .rd .d | exact .any) (SlTo_cons (by first | exact .rd .d | exact .any) (SlTo_cons (by first | exact .rd .d | exact .any) SlTo_nil))))))
      · skip
        obtain ⟨bl3, la3, k1, k2, k3, k4⟩ := hblk
        exact ⟨by omega, Nat.zero_le _, hpm, [], bl3, la3, by rw [k1]; simp, Bks.nil, k2, k3, k4, rfl⟩
      rintro ⟨a, b, cur4⟩ ⟨hb, haN, hpm, done, todo, la, hcur, hdn, htd, hsl, hll, hal⟩
      show AC _ _ _ _ _ (FS [1, 2, 6] _ [(7, i64 ((a : Nat) : Int)), (8, i64 ((b : Nat) : Int)), (0, .ref LT 0 0 (dsP cur4).length)]) [some ⟨⟨35, some (o 0)⟩, LT, (dsP cur4).map V.d⟩]
      have hcl : cur4.length = ps.length := hpm.length_eq
      have hrl : ps.length = done.flatten.length + todo.flatten.length + la.length := by rw [← hcl, hcur, List.length_append, List.length_append]; omega
      refine AC_seq fun K13 hK13 => ?_
      refine AC_seq fun K14 hK14 => ?_
      refine AC_region ?_
      refine AL_ev (Ev_move) rfl ?_
      refine AL_ev (Ev_move) rfl ?_
      refine AL_ev (Ev_leq rfl rfl) rfl ?_
      refine AL_nil ?_
      refine hK14 _ _ _ ?_
      refine AC_cond rfl (fun hc3 => ?_) (fun hc3 => ?_)
      · skip
        have h3 : b ≤ ps.length := by have := of_decide_eq_true hc3; omega
        obtain ⟨x, y, t, rfl, hxl, hyl, sx, sy, htt⟩ := two_more (by omega) htd hll hrl hal.symm (by omega)
        have hx0 : x ≠ [] := by intro e; subst e; simp only [List.length_nil] at hxl; omega
        have hy0 : y ≠ [] := by intro e; subst e; simp only [List.length_nil] at hyl; omega
        have hsp : cur4 = done.flatten ++ x ++ y ++ (t.flatten ++ la) := by rw [hcur]; simp
        have hsp2 : cur4 = done.flatten ++ (x ++ y) ++ (t.flatten ++ la) := by rw [hcur]; simp
        have hel1 : ∀ p ∈ x ++ y, PL pool p := fun p hp => hel p (hpm.mem_iff.1 (by rw [hsp2]; exact List.mem_append_left _ (List.mem_append_right _ hp)))
        have hl1 : (done.flatten ++ x ++ y ++ (t.flatten ++ la)).length ≤ 1099511627776 := by rw [← hsp, hcl]; exact hl
        refine AC_skip ?_
        refine hK13 _ _ _ ?_
        refine AC_block ?_
        refine AC_seq fun K15 hK15 => ?_
        refine AC_region ?_
        refine AL_ev (Ev_move) rfl ?_
        refine AL_ev (Ev_move) rfl ?_
        refine AL_ev (Ev_move) rfl ?_
        refine AL_ev (Ev_move) rfl ?_
        first | refine AL_ev (Ev_add rfl rfl _ (wrap_id (by first | omega | (simp; omega)) (by first | omega | (simp; omega)))) rfl ?_ | refine AL_ev (Ev_add rfl rfl _ rfl) rfl ?_
        refine AL_ev (Ev_move) rfl ?_
        refine AL_ev (Ev_move) rfl ?_
        refine AL_hstE hT hP [0] (fun ys => [⟨⟨35, some (o 0)⟩, LT, (dsP ys).map V.d⟩]) rfl cl95 (c_symMerge pool (x.length + y.length) done.flatten x y (t.flatten ++ la) rfl hx0 hy0 sx sy hel1 hl1) ?_ rfl rfl rfl ?_ (fun _ _ => rfl) ?_ rfl fun nx hnx => ?_
        · exact .cons (Vx_refe rfl (by rw [hsp])) (.cons (Vx_int (by first | omega | (simp; omega))) (.cons (Vx_int (by first | omega | (simp; omega))) (.cons (Vx_int (by first | omega | (simp; omega))) (.cons .d .nil))))
        · exact BxI_cons rfl rfl rfl rfl rfl (VxL_ds (by rw [hsp])) BxI_nil
        · exact fun _ _ => BxP_keep rfl rfl (VxL_d _) rfl rfl BxP_nil
        obtain ⟨C, rfl, hC, sC⟩ := hnx
        have hCl : C.length = x.length + y.length := by rw [hC.length_eq, List.length_append]
        have hnp : (done.flatten ++ C ++ (t.flatten ++ la)).Perm ps := by
          refine List.Perm.trans ?_ (hsp2 ▸ hpm)
          exact (hC.append_left _).append_right _
        have hnl := hnp.length_eq
        refine AL_nil ?_
        refine hK15 _ _ _ ?_
        refine AC_seq fun K16 hK16 => ?_
        refine AC_region ?_
        refine AL_ev (Ev_move) rfl ?_
        refine AL_ev (Ev_assign) rfl ?_
        refine AL_nil ?_
        refine hK16 _ _ _ ?_
        refine AC_region ?_
        refine AL_ev (Ev_move) rfl ?_
        refine AL_ev (Ev_move) rfl ?_
        first | refine AL_ev (Ev_mul rfl rfl _ (wrap_id (by first | omega | (simp; omega)) (by first | omega | (simp; omega)))) rfl ?_ | refine AL_ev (Ev_mul rfl rfl _ rfl) rfl ?_
        first | refine AL_ev (Ev_add rfl rfl _ (wrap_id (by first | omega | (simp; omega)) (by first | omega | (simp; omega)))) rfl ?_ | refine AL_ev (Ev_add rfl rfl _ rfl) rfl ?_
        refine AL_ev (Ev_assign) rfl ?_
        refine AL_nil ?_
        refine closeS (b, b + 2 * k, done.flatten ++ C ++ (t.flatten ++ la)) [some 0] rfl rfl (by show ps.length + 1 - b < ps.length + 1 - a; omega) ?_ (BxTo_some rfl rfl rfl rfl (by first | exact VwL_app (by first | rfl | simp [ints, strs] | simp [ints, strs, injs_map]) | exact VwL_dd (by first | rfl | simp [ints, strs] | simp [ints, strs, injs_map]) | exact VwL_of (by first | rfl | simp [ints, strs] | simp [ints, strs, injs_map])) BxTo_nil) (SlTo_cons (by first | exact .rd .d | exact Vw_int (by first | rfl | assumption | omega | (simp; done) | (simp; omega)) | exact Vw_c (by first | rfl | (simp; done) | simp_all) | exact .any) (SlTo_cons (by first | exact .rd .d | exact Vw_int (by first | rfl | assumption | omega | (simp; done) | (simp; omega)) | exact Vw_c (by first | rfl | (simp; done) | simp_all) | exact .any) (SlTo_cons (Vw_refe rfl (by first | rfl | (rw [dsP_length, dsP_length]; omega))) (SlTo_cons (by first | exact .rd .d | exact .any) (SlTo_cons (by first | exact .rd .d | exact .any) (SlTo_cons (by first | exact .rd .d | exact .any) SlTo_nil))))))
        exact ⟨rfl, by omega, hnp, done ++ [C], t, la, by simp, hdn.snoc (by omega) sC, htt, hsl, hll, by rw [List.flatten_append, List.length_append]; simp only [List.flatten_cons, List.flatten_nil, List.append_nil]; omega⟩
      · skip
        have h3 : ps.length < b := by have := of_decide_eq_false hc3; omega
        have hfl := few_left (by omega) htd hll hrl hal.symm (show ps.length < a + 2 * k by omega)
        refine AC_exit ?_
        refine hK12 _ _ _ ?_
        refine AC_seq fun K17 hK17 => ?_
        refine AC_seq fun K18 hK18 => ?_
        refine AC_region ?_
        refine AL_ev (Ev_move) rfl ?_
        refine AL_ev (Ev_move) rfl ?_
        first | refine AL_ev (Ev_add rfl rfl _ (wrap_id (by first | omega | (simp; omega)) (by first | omega | (simp; omega)))) rfl ?_ | refine AL_ev (Ev_add rfl rfl _ rfl) rfl ?_
        refine AL_ev (Ev_assign) rfl ?_
        refine AL_nil ?_
        refine hK18 _ _ _ ?_
        refine AC_seq fun K19 hK19 => ?_
        refine AC_region ?_
        refine AL_ev (Ev_move) rfl ?_
        refine AL_ev (Ev_move) rfl ?_
        refine AL_ev (Ev_lss rfl rfl) rfl ?_
        refine AL_nil ?_
        refine hK19 _ _ _ ?_
        refine AC_cond rfl (fun hc4 => ?_) (fun hc4 => ?_)
        · skip
          have h4 : a + k < ps.length := by have := of_decide_eq_true hc4; omega
          obtain ⟨x, rfl, hxl, sx, hxN⟩ : ∃ x, todo = [x] ∧ x.length = k ∧ SrtP x ∧ ps.length = a + k + la.length := by
            rcases hfl with ⟨_, h⟩ | h
            · omega
            · exact h
          have hx0 : x ≠ [] := by intro e; subst e; simp only [List.length_nil] at hxl; omega
          have hy0 : la ≠ [] := by intro e; subst e; simp only [List.length_nil] at hxN; omega
          have hsp : cur4 = done.flatten ++ x ++ la ++ [] := by rw [hcur]; simp
          have hsp2 : cur4 = done.flatten ++ (x ++ la) ++ [] := by rw [hcur]; simp
          have hel1 : ∀ p ∈ x ++ la, PL pool p := fun p hp => hel p (hpm.mem_iff.1 (by rw [hsp2]; exact List.mem_append_left _ (List.mem_append_right _ hp)))
          have hl1 : (done.flatten ++ x ++ la ++ []).length ≤ 1099511627776 := by rw [← hsp, hcl]; exact hl
          refine AC_region ?_
          refine AL_ev (Ev_move) rfl ?_
          refine AL_ev (Ev_move) rfl ?_
          refine AL_ev (Ev_move) rfl ?_
          refine AL_ev (Ev_move) rfl ?_
          refine AL_ev (Ev_move) rfl ?_
          refine AL_hstE hT hP [0] (fun ys => [⟨⟨35, some (o 0)⟩, LT, (dsP ys).map V.d⟩]) rfl cl95 (c_symMerge pool (x.length + la.length) done.flatten x la [] rfl hx0 hy0 sx hsl hel1 hl1) ?_ rfl rfl rfl ?_ (fun _ _ => rfl) ?_ rfl fun nx hnx => ?_
          · exact .cons (Vx_refe rfl (by rw [hsp])) (.cons (Vx_int (by first | omega | (simp; omega))) (.cons (Vx_int (by first | omega | (simp; omega))) (.cons (Vx_int (by first | omega | (simp; omega))) (.cons .d .nil))))
          · exact BxI_cons rfl rfl rfl rfl rfl (VxL_ds (by rw [hsp])) BxI_nil
          · exact fun _ _ => BxP_keep rfl rfl (VxL_d _) rfl rfl BxP_nil
          obtain ⟨C, rfl, hC, sC⟩ := hnx
          have hCl : C.length = x.length + la.length := by rw [hC.length_eq, List.length_append]
          have hnp : (done.flatten ++ C ++ []).Perm ps := by
            refine List.Perm.trans ?_ (hsp2 ▸ hpm)
            exact (hC.append_left _).append_right _
          have hnl := hnp.length_eq
          refine AL_nil ?_
          refine hK17 _ _ _ ?_
          refine AC_region ?_
          refine AL_ev (Ev_move) rfl ?_
          first | refine AL_ev (Ev_mul rfl rfl _ (wrap_id (by first | omega | (simp; omega)) (by first | omega | (simp; omega)))) rfl ?_ | refine AL_ev (Ev_mul rfl rfl _ rfl) rfl ?_
          refine AL_ev (Ev_assign) rfl ?_
          refine AL_nil ?_
          refine closeS (k * 2, done.flatten ++ C ++ []) [some 0] rfl rfl (by show ps.length - k * 2 < ps.length - k; omega) ?_ (BxTo_some rfl rfl rfl rfl (by first | exact VwL_app (by first | rfl | simp [ints, strs] | simp [ints, strs, injs_map]) | exact VwL_dd (by first | rfl | simp [ints, strs] | simp [ints, strs, injs_map]) | exact VwL_of (by first | rfl | simp [ints, strs] | simp [ints, strs, injs_map])) BxTo_nil) (SlTo_cons (by first | exact .rd .d | exact Vw_int (by first | rfl | assumption | omega | (simp; done) | (simp; omega)) | exact Vw_c (by first | rfl | (simp; done) | simp_all) | exact .any) (SlTo_cons (Vw_refe rfl (by first | rfl | (rw [dsP_length, dsP_length]; omega))) (SlTo_cons (by first | exact .rd .d | exact .any) (SlTo_cons (by first | exact .rd .d | exact .any) SlTo_nil))))
          exact ⟨by omega, by omega, hnp, done, C, by simp, hdn, sC, by omega⟩
        · skip
          have h4 : ps.length ≤ a + k := by have := of_decide_eq_false hc4; omega
          have hso : SrtP (todo.flatten ++ la) ∧ (todo.flatten ++ la).length < k * 2 := by
            rcases hfl with ⟨rfl, _⟩ | ⟨x, rfl, hxl, sx, hxN⟩
            · simp only [List.flatten_nil, List.nil_append]; exact ⟨hsl, by omega⟩
            · have e : la = [] := List.eq_nil_of_length_eq_zero (by omega)
              subst e
              simp only [List.flatten_cons, List.flatten_nil, List.append_nil]; exact ⟨sx, by omega⟩
          obtain ⟨hso, hso2⟩ := hso
          refine AC_skip ?_
          refine hK17 _ _ _ ?_
          refine AC_region ?_
          refine AL_ev (Ev_move) rfl ?_
          first | refine AL_ev (Ev_mul rfl rfl _ (wrap_id (by first | omega | (simp; omega)) (by first | omega | (simp; omega)))) rfl ?_ | refine AL_ev (Ev_mul rfl rfl _ rfl) rfl ?_
          refine AL_ev (Ev_assign) rfl ?_
          refine AL_nil ?_
          refine closeS (k * 2, cur4) [some 0] rfl rfl (by show ps.length - k * 2 < ps.length - k; omega) ?_ (BxTo_some rfl rfl rfl rfl (by first | exact VwL_app (by first | rfl | simp [ints, strs] | simp [ints, strs, injs_map]) | exact VwL_dd (by first | rfl | simp [ints, strs] | simp [ints, strs, injs_map]) | exact VwL_of (by first | rfl | simp [ints, strs] | simp [ints, strs, injs_map])) BxTo_nil) (SlTo_cons (by first | exact .rd .d | exact Vw_int (by first | rfl | assumption | omega | (simp; done) | (simp; omega)) | exact Vw_c (by first | rfl | (simp; done) | simp_all) | exact .any) (SlTo_cons (Vw_refe rfl (by first | rfl | (rw [dsP_length, dsP_length]; omega))) (SlTo_cons (by first | exact .rd .d | exact .any) (SlTo_cons (by first | exact .rd .d | exact .any) SlTo_nil))))
          exact ⟨by omega, by omega, hpm, done, todo.flatten ++ la, hcur, hdn, hso, hso2⟩
    · skip
      have hkN : ps.length ≤ k := by have := of_decide_eq_false hc2; omega
      refine AC_exit ?_
      exact rete_ok (cur3) (⟨hpm, hblk.whole (by omega) (by omega)⟩) [0] (CExt.refl _) rfl rfl rfl (BxF_stay rfl rfl rfl rfl rfl (VxL_d _) rfl BxF_nil) (Nat.le_refl _)

set_option maxHeartbeats 1000000 in
set_option maxRecDepth 4000 in
theorem c_sortStable (pool : List (D × D)) (ps : List TD) (hel : ∀ p ∈ ps, PL pool p) (hl : ps.length ≤ 1099511627776) : HCallE Try.prog 42 pool [.ref LT 0 0 (dsP ps).length, .d (.fn 43 [])] [⟨35, LT, (dsP ps).map V.d⟩] 1 (fun ys : List TD => ys.Perm ps ∧ SrtP ys) (fun ys : List TD => [⟨35, LT, (dsP ys).map V.d⟩]) := by
  refine HCallE_of (n := 9) Try.func42 rfl rfl (Nat.le_of_ble_eq_true rfl) (Nat.le_of_ble_eq_true rfl) fun C0 o hT hP => ?_
  refine AC_region ?_
  refine AL_ev (Ev_move) rfl ?_
  refine AL_ev (Ev_move) rfl ?_
  first | refine AL_lim (x := (Operand.tmp 5)) rfl fun hl1 => ?_ | refine AL_limB (x := (Operand.tmp 5)) rfl rfl (by first | rfl | (simp; done) | (simp; omega)) fun hl1 => ?_ | have hl1 := True.intro
  try simp only [injs_length, ints_length, strs_length, injCs_length, u8s_length, List.length_map] at hl1
  first | refine AL_ev (Ev_len_injs te24 rfl) rfl ?_ | refine AL_ev (Ev_len_sl te24 rfl) rfl ?_ | refine AL_ev (Ev_len_ref te24 rfl) rfl ?_ | refine AL_ev (Ev_len_nil te24 rfl) rfl ?_ | refine AL_ev (Ev_len_c te24 rfl) rfl ?_
  refine AL_ev (Ev_move) rfl ?_
  refine AL_hstE hT hP [0] (fun ys => [⟨⟨35, some (o 0)⟩, LT, (dsP ys).map V.d⟩]) rfl cl73 (c_stable pool ps hel hl) ?_ rfl rfl rfl ?_ (fun _ _ => rfl) ?_ rfl fun nx hnx => ?_
  · exact .cons (Vx_refe rfl (by rw [show ps = ps from rfl])) (.cons (Vx_int (by rw [dsP_length])) (.cons .d .nil))
  · exact BxI_cons rfl rfl rfl rfl rfl (VxL_ds (by rw [show ps = ps from rfl])) BxI_nil
  · exact fun _ _ => BxP_keep rfl rfl (VxL_d _) rfl rfl BxP_nil
  obtain ⟨hnp, hns⟩ := hnx
  refine AL_nil ?_
  exact rete_ok (nx) (⟨hnp, hns⟩) [0] (CExt.refl _) rfl rfl rfl (BxF_stay rfl rfl rfl rfl rfl (VxL_d _) rfl BxF_nil) (Nat.le_refl _)

set_option maxHeartbeats 4000000 in
set_option maxRecDepth 4000 in
theorem c_sortedAll (ts : List T) (hb : ∀ t ∈ ts, bulk t ≤ 1099511627775) : OTCall Try.prog 10 [.sl LT (injs ts)] 35 LT (injs (sortF ts [])) [] := by
  refine OTCall_of (n := 23) Try.func10 rfl rfl (Nat.le_of_ble_eq_true rfl) fun C0 hdm hT0 => ?_
  have hX0 := CExt.refl C0
  have hT := hT0
  refine AC_seq fun K1 hK1 => ?_
  refine AC_region ?_
  refine AL_ev (Ev_assign) rfl ?_
  refine AL_nil ?_
  refine hK1 _ _ _ ?_
  refine AC_seq fun K2 hK2 => ?_
  refine AC_region ?_
  refine AL_ev (Ev_assign) rfl ?_
  refine AL_nil ?_
  refine hK2 _ _ _ ?_
  refine AC_seq fun K3 hK3 => ?_
  refine AC_seq fun K4 hK4 => ?_
  refine AC_region ?_
  refine AL_ev (Ev_move) rfl ?_
  first | refine AL_lim (x := (Operand.tmp 6)) rfl fun hl1 => ?_ | refine AL_limB (x := (Operand.tmp 6)) rfl rfl (by first | rfl | (simp; done) | (simp; omega)) fun hl1 => ?_ | have hl1 := True.intro
  try simp only [injs_length, ints_length, strs_length, injCs_length, u8s_length, List.length_map] at hl1
  first | refine AL_ev (Ev_len_injs te24 rfl) rfl ?_ | refine AL_ev (Ev_len_sl te24 rfl) rfl ?_ | refine AL_ev (Ev_len_ref te24 rfl) rfl ?_ | refine AL_ev (Ev_len_nil te24 rfl) rfl ?_ | refine AL_ev (Ev_len_c te24 rfl) rfl ?_
  refine AL_ev (Ev_move) rfl ?_
  refine AL_nil ?_
  refine hK4 _ _ _ ?_
  refine AC_block ?_
  refine AC_loopX (Nat × List (List Value) × List Nat) (fun q => [(8, i64 q.1), (3, .ref LT 0 0 q.2.1.length)]) (fun q => [some ⟨35, LT, (q.2.1.map (rawD LT)).map V.d⟩]) (fun q => ts.length - q.1) (fun C q => q.1 ≤ ts.length ∧ q.2.1.length ≤ q.1 ∧ CExt C0 C ∧ HasL C0.w0.heap.size C LT q.2.1 (injs ((ts.take q.1).filter okT)) q.2.2) [6, 7] ?_ ?_
  · skip
    refine Fin_wk (Wk_nil_slot 3 35 LT rfl 0 rfl ?_)
    exact enterX (0, [], []) [some 0] rfl rfl ⟨Nat.zero_le _, Nat.zero_le _, hX0, HasL.nil⟩ (BxTo_some rfl rfl rfl rfl .nil BxTo_nil) (SlTo_cons (by first | exact .rd .d | exact .ptr rfl | exact .ref rfl | exact .any | exact Vw_int (by omega)) (SlTo_cons (Vw_refe rfl (by first | rfl | simp)) (SlTo_cons (by first | exact .rd .d | exact .ptr rfl | exact .ref rfl | exact .any | exact Vw_int (by omega)) (SlTo_cons (by first | exact .rd .d | exact .ptr rfl | exact .ref rfl | exact .any | exact Vw_int (by omega)) SlTo_nil))))
  rintro CL ⟨j, css, K⟩ ⟨hj, hcj, hX, hL⟩
  simp only at hj hcj hL
  have hT := hT0.ext hX
  refine AC_seq fun K5 hK5 => ?_
  refine AC_region ?_
  refine AL_ev (Ev_lss rfl rfl) rfl ?_
  refine AL_nil ?_
  refine hK5 _ _ _ ?_
  refine AC_seq fun K6 hK6 => ?_
  refine AC_cond rfl (fun hc1 => ?_) (fun hc1 => ?_)
  · skip
    have hlt : j < ts.length := by simpa [injs_length] using hc1
    obtain ⟨u, hu⟩ : ∃ u, ts[j]? = some u := ⟨_, List.getElem?_eq_getElem hlt⟩
    have hu2 := injs_get hu
    refine AC_skip ?_
    refine hK6 _ _ _ ?_
    refine AC_seq fun K7 hK7 => ?_
    refine AC_block ?_
    refine AC_seq fun K8 hK8 => ?_
    refine AC_region ?_
    first | refine AL_ev (Ev_ix_sl rfl rfl te24 ts35 (by omega) (by assumption)) rfl ?_ | refine AL_ev (Ev_ix_ref rfl rfl te24 ts35 (by omega) (by first | omega | (simp; omega))) rfl ?_
    first | refine AL_ev (Ev_load_ptr rfl rfl rfl rfl rfl rfl ts35 ta35 (by first | rfl | assumption | simp) (by intro h; cases h)) rfl ?_ | refine AL_ev (Ev_load_rp rfl rfl rfl ts35 ta35 (by first | rfl | assumption | simp) (by intro h; cases h)) rfl ?_
    refine AL_alloc zo35 _ rfl rfl ?_
    first | refine AL_store rfl (nf rfl) rfl rfl rfl rfl rfl rfl (by first | rfl | assumption | simp [Lay.len, Lay.lens]) ts35 rfl rfl ?_ | refine AL_store rfl (nf rfl) rfl rfl rfl hes rfl rfl (by first | rfl | assumption | simp [Lay.len, Lay.lens]) ts35 rfl rfl ?_
    refine AL_nil ?_
    refine hK8 _ _ _ ?_
    refine AC_seq fun K9 hK9 => ?_
    refine AC_region ?_
    first | refine AL_ev (Ev_load_ptr rfl rfl rfl rfl rfl rfl ts35 ta35 (by first | rfl | assumption | simp) (by intro h; cases h)) rfl ?_ | refine AL_ev (Ev_load_rp rfl rfl rfl ts35 ta35 (by first | rfl | assumption | simp) (by intro h; cases h)) rfl ?_
    refine AL_fcall0 hT rfl cl40 (c_termOk u (by have := hb u (List.mem_of_getElem? hu); omega)) rfl rfl ?_
    refine AL_nil ?_
    refine hK9 _ _ _ ?_
    refine AC_cond rfl (fun hc2 => ?_) (fun hc2 => ?_)
    · skip
      have hok := hc2
      refine AC_region ?_
      refine AL_ev (Ev_move) rfl ?_
      first | refine AL_ev (Ev_load_ptr rfl rfl rfl rfl rfl rfl ts35 ta35 (by first | rfl | assumption | simp) (by intro h; cases h)) rfl ?_ | refine AL_ev (Ev_load_rp rfl rfl rfl ts35 ta35 (by first | rfl | assumption | simp) (by intro h; cases h)) rfl ?_
      refine AL_ocall0d hT LT rfl cl41 (c_copyTermO u) rfl (inj_lenL _) (inj_agL _) rfl fun C1 cs1 K1 hg1 => ?_
      have hX1 := hX.trans hg1.ext
      have hT := hT.ext hg1.ext
      first | refine AL_bD (Lay.st [.one, .one, .one, .one]) rfl te24 ts35 tz35 rfl rfl (by decide) (by decide) (by first | rfl | simp [lenDs, goodVs, goodV, V.known, Lay.len, Lay.lens]) rfl ?_ | refine AL_bV (Lay.st [.one, .one, .one, .one]) rfl te24 ts35 tz35 rfl rfl (by decide) (by decide) (by first | rfl | simp [lenDs, goodVs, goodV, V.known, Lay.len, Lay.lens]) _ rfl rfl ?_
      first | refine AL_append rfl rfl rfl te24 ts35 tz35 rfl tb35 (by decide) (by decide) rfl (by first | rfl | (simp; done) | (simp; omega)) (Src_sl rfl) (by simp only [lim]; first | omega | (simp; done) | (simp; omega)) _ rfl rfl ?_ | refine AL_append rfl rfl rfl te24 ts35 tz35 rfl tb35 (by decide) (by decide) rfl (by first | rfl | (simp; done) | (simp; omega)) (Src_ref rfl rfl rfl (by first | rfl | (simp; done) | (simp; omega))) (by simp only [lim]; first | omega | (simp; done) | (simp; omega)) _ rfl rfl ?_ | refine AL_append rfl rfl rfl te24 ts35 tz35 rfl tb35 (by decide) (by decide) rfl (by first | rfl | (simp; done) | (simp; omega)) (Src_nil rfl) (by simp only [lim]; first | omega | (simp; done) | (simp; omega)) _ rfl rfl ?_
      refine AL_ev (Ev_assign) rfl ?_
      refine AL_nil ?_
      refine hK7 _ _ _ ?_
      refine AC_region ?_
      first | refine AL_ev (Ev_add rfl rfl _ (wrap_id (by first | omega | (simp; omega)) (by first | omega | (simp; omega)))) rfl ?_ | refine AL_ev (Ev_add rfl rfl _ rfl) rfl ?_
      refine AL_ev (Ev_move) rfl ?_
      refine AL_nil ?_
      refine closeX (j + 1, css ++ [cs1], K ++ K1) [some 2] rfl rfl (by show ts.length - (j + 1) < ts.length - j; omega) ⟨by show j + 1 ≤ _; omega, by simp; omega, hX1, ?_⟩ (BxTo_some rfl rfl rfl rfl (VwL_app (by simp)) BxTo_nil) (SlTo_cons (Vw_int (by first | rfl | (simp; omega) | omega)) (SlTo_cons (Vw_refe rfl (by first | rfl | simp)) (SlTo_cons (by first | exact .rd .d | exact .ptr rfl | exact .ref rfl | exact .any | exact Vw_int (by omega)) (SlTo_cons (by first | exact .rd .d | exact .ptr rfl | exact .ref rfl | exact .any | exact Vw_int (by omega)) SlTo_nil))))
      show HasL _ _ _ (css ++ [cs1]) (injs ((ts.take (j + 1)).filter okT)) _
      rw [filter_take hu, if_pos hok, ← injs_apo]
      exact hL.snoc hg1.ext hg1.has hX.pres.size (inj_lenL u)
    · skip
      have hok := hc2
      refine AC_skip ?_
      refine hK7 _ _ _ ?_
      refine AC_region ?_
      first | refine AL_ev (Ev_add rfl rfl _ (wrap_id (by first | omega | (simp; omega)) (by first | omega | (simp; omega)))) rfl ?_ | refine AL_ev (Ev_add rfl rfl _ rfl) rfl ?_
      refine AL_ev (Ev_move) rfl ?_
      refine AL_nil ?_
      refine closeX (j + 1, css, K) [some 0] rfl rfl (by show ts.length - (j + 1) < ts.length - j; omega) ⟨by show j + 1 ≤ _; omega, by show css.length ≤ j + 1; omega, hX, ?_⟩ (BxTo_some rfl rfl rfl rfl (VwL_dd (by simp)) BxTo_nil) (SlTo_cons (Vw_int (by first | rfl | (simp; omega) | omega)) (SlTo_cons (Vw_refe rfl (by first | rfl | simp)) (SlTo_cons (by first | exact .rd .d | exact .ptr rfl | exact .ref rfl | exact .any | exact Vw_int (by omega)) (SlTo_cons (by first | exact .rd .d | exact .ptr rfl | exact .ref rfl | exact .any | exact Vw_int (by omega)) SlTo_nil))))
      show HasL _ _ _ css (injs ((ts.take (j + 1)).filter okT)) _
      rw [filter_take hu, if_neg (by rw [hok]; decide), List.append_nil]
      exact hL
  · skip
    have hj2 : j = ts.length := by
      have : ¬ j < ts.length := by simpa [injs_length] using hc1
      omega
    subst hj2
    rw [List.take_length] at hL
    obtain ⟨zs, hzs, hzd, hzl, hel, hPool, hKb⟩ := sort_pool hL (filter_rt ts)
    have hcl9 : css.length = (ts.filter okT).length := by have := hL.len; simpa using this
    have hlz : (psZ zs).length ≤ 1099511627776 := by rw [hzl]; omega
    refine AC_exit ?_
    refine hK3 _ _ _ ?_
    refine AC_seq fun K10 hK10 => ?_
    refine AC_region ?_
    refine AL_ev (Ev_move) rfl ?_
    refine AL_hsort hT hKb hPool [0] (fun ys => [⟨35, LT, (dsP ys).map V.d⟩]) rfl cl42 (c_sortStable (poolZ zs) (psZ zs) hel hlz) ?_ rfl rfl rfl ?_ (fun _ _ => rfl) ?_ ?_ rfl fun nx hnx => ?_
    · exact .cons (Vx_refe rfl (by rw [← hzd]; simp)) (.cons .d .nil)
    · exact BxI_cons rfl rfl rfl rfl rfl (VxL_ds (by rw [← hzd])) BxI_nil
    · exact fun _ _ => BxP_cons rfl rfl (VxL_d _) rfl BxP_nil
    · intro ys hys bx hbx
      rw [List.mem_singleton.1 hbx]
      exact flat_dsP hys.1
    obtain ⟨hnp, hns⟩ := hnx
    subst hzs
    obtain ⟨css2, K2, hd2, hl2, hL2⟩ := sort_back hL hnp
    refine AL_nil ?_
    refine hK10 _ _ _ ?_
    refine AC_seq fun K11 hK11 => ?_
    refine AC_region ?_
    refine AL_ev (Ev_move) rfl ?_
    refine AL_ev (Ev_assign) rfl ?_
    refine AL_nil ?_
    refine hK11 _ _ _ ?_
    refine AC_ret ?_
    exact rett_eq [] hX hdm (.tmp rfl rfl .nil) (.ref rfl rfl rfl (by simp [hl2, hnp.length_eq, hzl]) (by rw [hd2]; exact OwVs_rawds hL2 (by rw [hl2, hnp.length_eq, hzl])) (by simp)) (by rw [sorted_is hcl9 hnp hns]) rfl

end Go.Proofs.Ytjhdkjacfclipaa
