/- Contracts of functions. -/
import Derived.Test.YtjhdkjacfclipaaMt
import Derived.Test.YtjhdkjacfclipaaOk
import Derived.Test.YtjhdkjacfclipaaWn
import Derived.Test.YtjhdkjacfclipaaEng27
import Derived.Test.YtjhdkjacfclipaaCd
import Derived.Test.YtjhdkjacfclipaaLc
import Derived.Test.YtjhdkjacfclipaaProg
import Derived.KernelRfl
import Derived.Test.YtjhdkjacfclipaaCA
import Derived.Test.YtjhdkjacfclipaaCB
import Derived.Test.YtjhdkjacfclipaaCLA
import Derived.Test.YtjhdkjacfclipaaCS
import Derived.Test.YtjhdkjacfclipaaCY
set_option linter.unusedVariables false
set_option linter.unusedSimpArgs false
namespace Go.Proofs.Ytjhdkjacfclipaa
open Go.Eng

theorem cl49 : Callable Try.prog 49 := Callable_of Try.func49 (by kernel_rfl) (by kernel_rfl)
theorem cl50 : Callable Try.prog 50 := Callable_of Try.func50 (by kernel_rfl) (by kernel_rfl)
theorem cl55 : Callable Try.prog 55 := Callable_of Try.func55 (by kernel_rfl) (by kernel_rfl)
theorem cl56 : Callable Try.prog 56 := Callable_of Try.func56 (by kernel_rfl) (by kernel_rfl)
theorem cl62 : Callable Try.prog 62 := Callable_of Try.func62 (by kernel_rfl) (by kernel_rfl)

set_option maxHeartbeats 4000000 in
set_option maxRecDepth 4000 in
theorem c_any03  : DCall Try.prog 62 [] (fun r => ∃ t : T, r = inj t ∧ bulk t ≤ 1000 ∧ (hgt t ≤ 4 ∨ (pairB t = false ∧ nilB t = false))) := by
  refine DCall_of (n := 48) Try.func62 rfl rfl (Nat.le_of_ble_eq_true rfl) fun C0 b bs hdm hbl hT hcu => ?_
  have hM := Mk.refl C0 [b]
  refine AC_seq fun K1 hK1 => ?_
  refine AC_region ?_
  refine AL_alloc zo35 _ rfl rfl ?_
  refine AL_nil ?_
  refine hK1 _ _ _ ?_
  refine AC_seq fun K2 hK2 => ?_
  refine AC_region ?_
  refine AL_ev (Ev_move) rfl ?_
  refine AL_dcall hT hcu hbl rfl cl61 (c_below 12 (by omega)) rfl rfl rfl fun C1 r1 hR1 hM1 hcu hT => ?_
  have hM := hM.trans hM1 (fun c hc _ => hc)
  obtain ⟨x1, rfl, hx1, hy1⟩ := hR1
  refine AL_ev (Ev_assign) rfl ?_
  refine AL_nil ?_
  refine hK2 _ _ _ ?_
  refine AC_seq fun K3 hK3 => ?_
  refine AC_region ?_
  refine AL_ev (Ev_move) rfl ?_
  refine AL_dcall hT hcu hbl rfl cl61 (c_below 60 (by omega)) rfl rfl rfl fun C2 r2 hR2 hM2 hcu hT => ?_
  have hM := hM.trans hM2 (fun c hc _ => hc)
  obtain ⟨x2, rfl, hx2, hy2⟩ := hR2
  refine AL_ev (Ev_assign) rfl ?_
  refine AL_nil ?_
  refine hK3 _ _ _ ?_
  refine AC_seq fun K4 hK4 => ?_
  refine AC_region ?_
  refine AL_ev (Ev_move) rfl ?_
  refine AL_dcall hT hcu hbl rfl cl89 (c_made 3 (by omega) 3 rfl) rfl rfl rfl fun C3 r3 hR3 hM3 hcu hT => ?_
  have hM := hM.trans hM3 (fun c hc _ => hc)
  obtain ⟨⟨tk, ts, tm, tks⟩, rfl, hb3, hh3⟩ := hR3
  rw [pw3] at hb3
  have h40 := Int.tmod_nonneg 4 hx2
  have h41 := Int.tmod_lt_of_pos x2 (show (0 : Int) < 4 by omega)
  have h30 := Int.tmod_nonneg 3 hx2
  have h31 := Int.tmod_lt_of_pos x2 (show (0 : Int) < 3 by omega)
  refine AL_alloc zo35 _ rfl rfl ?_
  first | refine AL_store rfl (nf rfl) rfl rfl rfl rfl rfl rfl (by first | rfl | assumption | simp [Lay.len, Lay.lens]) ts35 rfl rfl ?_ | refine AL_store rfl (nf rfl) rfl rfl rfl hes rfl rfl (by first | rfl | assumption | simp [Lay.len, Lay.lens]) ts35 rfl rfl ?_
  refine AL_nil ?_
  refine hK4 _ _ _ ?_
  refine AC_seq fun K5 hK5 => ?_
  refine AC_seq fun K6 hK6 => ?_
  refine AC_region ?_
  refine AL_ev (Ev_move) rfl ?_
  refine AL_nil ?_
  refine hK6 _ _ _ ?_
  refine AC_block ?_
  refine AC_seq fun K7 hK7 => ?_
  refine AC_region ?_
  refine AL_ev (Ev_eql rfl rfl) rfl ?_
  refine AL_ev (Ev_assign) rfl ?_
  refine AL_nil ?_
  refine hK7 _ _ _ ?_
  refine AC_cond rfl (fun hc1 => ?_) (fun hc1 => ?_)
  · skip
    refine AC_region ?_
    refine AL_ev (Ev_move) rfl ?_
    refine AL_ev (Ev_rem rfl rfl (by first | decide | omega)) rfl ?_
    first | refine AL_ev (Ev_fa_ptr rfl fa35_0 rfl rfl) rfl ?_ | refine AL_ev (Ev_fa_rp rfl fa35_0 rfl rfl) rfl ?_
    first | refine AL_store rfl (nf rfl) rfl rfl rfl rfl rfl rfl (by first | rfl | assumption | simp [Lay.len, Lay.lens]) ts3 rfl rfl ?_ | refine AL_store rfl (nf rfl) rfl rfl rfl hes rfl rfl (by first | rfl | assumption | simp [Lay.len, Lay.lens]) ts3 rfl rfl ?_
    refine AL_nil ?_
    refine hK5 _ _ _ ?_
    refine AC_seq fun K8 hK8 => ?_
    refine AC_region ?_
    first | refine AL_ev (Ev_load_ptr rfl rfl rfl rfl rfl rfl ts35 ta35 (by first | rfl | assumption | simp) (by intro h; cases h)) rfl ?_ | refine AL_ev (Ev_load_rp rfl rfl rfl ts35 ta35 (by first | rfl | assumption | simp) (by intro h; cases h)) rfl ?_
    first | refine AL_store rfl (nf rfl) rfl rfl rfl rfl rfl rfl (by first | rfl | assumption | simp [Lay.len, Lay.lens]) ts35 rfl rfl ?_ | refine AL_store rfl (nf rfl) rfl rfl rfl hes rfl rfl (by first | rfl | assumption | simp [Lay.len, Lay.lens]) ts35 rfl rfl ?_
    refine AL_nil ?_
    refine hK8 _ _ _ ?_
    refine AC_ret ?_
    exact retd_ok hM hcu hdm (.cell rfl rfl rfl rfl rfl rfl ts35 ta35 rfl (by intro h; cases h) .nil) (.agg (.cons .d (.cons .d (.cons .d (.cons .d .nil))))) ⟨.mk (x2.tmod 6) ts tm tks, rfl, by simp only [bulk, bulkS_eq] at hb3 ⊢; omega, .inl (by simp only [hgt] at hh3 ⊢; omega)⟩
  · skip
    refine AC_seq fun K9 hK9 => ?_
    refine AC_region ?_
    refine AL_ev (Ev_eql rfl rfl) rfl ?_
    refine AL_ev (Ev_assign) rfl ?_
    refine AL_nil ?_
    refine hK9 _ _ _ ?_
    refine AC_cond rfl (fun hc2 => ?_) (fun hc2 => ?_)
    · skip
      obtain ⟨w, hw, hwz⟩ : ∃ w : ByteArray, [D.c (.string ⟨#[]⟩), .c (.string ⟨#[97,32,98]⟩), .c (.string ⟨#[39]⟩), .c (.string ⟨#[97, 97, 97, 97, 97, 97, 97, 97, 97, 97, 97, 97, 97, 97, 97, 97, 97, 97, 97, 97, 97]⟩)][(x2.tmod 4).toNat]? = some (.c (.string w)) ∧ w.size ≤ 21 := by
        have hq : (x2.tmod 4).toNat < 4 := by omega
        generalize (x2.tmod 4).toNat = q at hq ⊢
        match q, hq with
        | 0, _ => exact ⟨_, rfl, by decide⟩
        | 1, _ => exact ⟨_, rfl, by decide⟩
        | 2, _ => exact ⟨_, rfl, by decide⟩
        | 3, _ => exact ⟨_, rfl, by decide⟩
      refine AC_region ?_
      first | refine AL_bD .one rfl te84 ts9 tz9 rfl rfl (by decide) (by decide) (by first | rfl | simp [lenDs, goodVs, goodV, V.known, Lay.len, Lay.lens]) rfl ?_ | refine AL_bV .one rfl te84 ts9 tz9 rfl rfl (by decide) (by decide) (by first | rfl | simp [lenDs, goodVs, goodV, V.known, Lay.len, Lay.lens]) _ rfl rfl ?_
      refine AL_ev (Ev_move) rfl ?_
      refine AL_ev (Ev_rem rfl rfl (by first | decide | omega)) rfl ?_
      first | refine AL_ev (Ev_ix_sl rfl rfl te84 ts9 (by omega) (by assumption)) rfl ?_ | refine AL_ev (Ev_ix_ref rfl rfl te84 ts9 (by omega) (by first | omega | (simp; omega))) rfl ?_
      first | refine AL_ev (Ev_load_ptr rfl rfl rfl rfl rfl rfl ts9 ta9 rfl (fun _ => rfl)) rfl ?_ | refine AL_ev (Ev_load_rp rfl rfl rfl ts9 ta9 rfl (fun _ => rfl)) rfl ?_
      first | refine AL_ev (Ev_fa_ptr rfl fa35_1 rfl rfl) rfl ?_ | refine AL_ev (Ev_fa_rp rfl fa35_1 rfl rfl) rfl ?_
      first | refine AL_store rfl (nf rfl) rfl rfl rfl rfl rfl rfl (by first | rfl | assumption | simp [Lay.len, Lay.lens]) ts9 rfl rfl ?_ | refine AL_store rfl (nf rfl) rfl rfl rfl hes rfl rfl (by first | rfl | assumption | simp [Lay.len, Lay.lens]) ts9 rfl rfl ?_
      refine AL_nil ?_
      refine hK5 _ _ _ ?_
      refine AC_seq fun K10 hK10 => ?_
      refine AC_region ?_
      first | refine AL_ev (Ev_load_ptr rfl rfl rfl rfl rfl rfl ts35 ta35 (by first | rfl | assumption | simp) (by intro h; cases h)) rfl ?_ | refine AL_ev (Ev_load_rp rfl rfl rfl ts35 ta35 (by first | rfl | assumption | simp) (by intro h; cases h)) rfl ?_
      first | refine AL_store rfl (nf rfl) rfl rfl rfl rfl rfl rfl (by first | rfl | assumption | simp [Lay.len, Lay.lens]) ts35 rfl rfl ?_ | refine AL_store rfl (nf rfl) rfl rfl rfl hes rfl rfl (by first | rfl | assumption | simp [Lay.len, Lay.lens]) ts35 rfl rfl ?_
      refine AL_nil ?_
      refine hK10 _ _ _ ?_
      refine AC_ret ?_
      exact retd_ok hM hcu hdm (.cell rfl rfl rfl rfl rfl rfl ts35 ta35 rfl (by intro h; cases h) .nil) (.agg (.cons .d (.cons .d (.cons .d (.cons .d .nil))))) ⟨.mk tk w tm tks, rfl, by simp only [bulk, bulkS_eq] at hb3 ⊢; omega, .inl (by simp only [hgt] at hh3 ⊢; omega)⟩
    · skip
      refine AC_seq fun K11 hK11 => ?_
      refine AC_region ?_
      refine AL_ev (Ev_eql rfl rfl) rfl ?_
      refine AL_ev (Ev_assign) rfl ?_
      refine AL_nil ?_
      refine hK11 _ _ _ ?_
      refine AC_cond rfl (fun hc3 => ?_) (fun hc3 => ?_)
      · skip
        obtain ⟨w, hw⟩ : ∃ w : Int, [D.c (.int .i64 (-1)), .c (.int .i64 100000), .c (.int .i64 1000000000)][(x2.tmod 3).toNat]? = some (.c (.int .i64 w)) := by
          have hq : (x2.tmod 3).toNat < 3 := by omega
          generalize (x2.tmod 3).toNat = q at hq ⊢
          match q, hq with
          | 0, _ => exact ⟨_, rfl⟩
          | 1, _ => exact ⟨_, rfl⟩
          | 2, _ => exact ⟨_, rfl⟩
        refine AC_region ?_
        first | refine AL_bD .one rfl te85 ts3 tz3 rfl rfl (by decide) (by decide) (by first | rfl | simp [lenDs, goodVs, goodV, V.known, Lay.len, Lay.lens]) rfl ?_ | refine AL_bV .one rfl te85 ts3 tz3 rfl rfl (by decide) (by decide) (by first | rfl | simp [lenDs, goodVs, goodV, V.known, Lay.len, Lay.lens]) _ rfl rfl ?_
        refine AL_ev (Ev_move) rfl ?_
        refine AL_ev (Ev_rem rfl rfl (by first | decide | omega)) rfl ?_
        first | refine AL_ev (Ev_ix_sl rfl rfl te85 ts3 (by omega) (by assumption)) rfl ?_ | refine AL_ev (Ev_ix_ref rfl rfl te85 ts3 (by omega) (by first | omega | (simp; omega))) rfl ?_
        first | refine AL_ev (Ev_load_ptr rfl rfl rfl rfl rfl rfl ts3 ta3 rfl (fun _ => rfl)) rfl ?_ | refine AL_ev (Ev_load_rp rfl rfl rfl ts3 ta3 rfl (fun _ => rfl)) rfl ?_
        first | refine AL_ev (Ev_fa_ptr rfl fa35_2 rfl rfl) rfl ?_ | refine AL_ev (Ev_fa_rp rfl fa35_2 rfl rfl) rfl ?_
        first | refine AL_store rfl (nf rfl) rfl rfl rfl rfl rfl rfl (by first | rfl | assumption | simp [Lay.len, Lay.lens]) ts3 rfl rfl ?_ | refine AL_store rfl (nf rfl) rfl rfl rfl hes rfl rfl (by first | rfl | assumption | simp [Lay.len, Lay.lens]) ts3 rfl rfl ?_
        refine AL_nil ?_
        refine hK5 _ _ _ ?_
        refine AC_seq fun K12 hK12 => ?_
        refine AC_region ?_
        first | refine AL_ev (Ev_load_ptr rfl rfl rfl rfl rfl rfl ts35 ta35 (by first | rfl | assumption | simp) (by intro h; cases h)) rfl ?_ | refine AL_ev (Ev_load_rp rfl rfl rfl ts35 ta35 (by first | rfl | assumption | simp) (by intro h; cases h)) rfl ?_
        first | refine AL_store rfl (nf rfl) rfl rfl rfl rfl rfl rfl (by first | rfl | assumption | simp [Lay.len, Lay.lens]) ts35 rfl rfl ?_ | refine AL_store rfl (nf rfl) rfl rfl rfl hes rfl rfl (by first | rfl | assumption | simp [Lay.len, Lay.lens]) ts35 rfl rfl ?_
        refine AL_nil ?_
        refine hK12 _ _ _ ?_
        refine AC_ret ?_
        exact retd_ok hM hcu hdm (.cell rfl rfl rfl rfl rfl rfl ts35 ta35 rfl (by intro h; cases h) .nil) (.agg (.cons .d (.cons .d (.cons .d (.cons .d .nil))))) ⟨.mk tk ts w tks, rfl, by simp only [bulk, bulkS_eq] at hb3 ⊢; omega, .inl (by simp only [hgt] at hh3 ⊢; omega)⟩
      · skip
        refine AC_seq fun K13 hK13 => ?_
        refine AC_region ?_
        refine AL_ev (Ev_eql rfl rfl) rfl ?_
        refine AL_ev (Ev_assign) rfl ?_
        refine AL_nil ?_
        refine hK13 _ _ _ ?_
        refine AC_cond rfl (fun hc4 => ?_) (fun hc4 => ?_)
        · skip
          refine AC_seq fun K14 hK14 => ?_
          refine AC_region ?_
          refine AL_ev (Ev_assign) rfl ?_
          refine AL_nil ?_
          refine hK14 _ _ _ ?_
          refine AC_block ?_
          refine AC_loopS [2, 4, 5] (Nat) (fun i => [(6, i64 ((i : Nat) : Int))]) (fun i => [some ⟨35, LT, [.d zT]⟩, some ⟨35, LT, [.d (inj (wrapN i (.mk tk ts tm tks)))]⟩]) (fun i => 42 - i) (fun i => i ≤ 42) (0) ?_ ?_ ?_
          · skip
            exact enterS [some 0, some 1] rfl rfl (BxTo_some rfl rfl rfl rfl (.cons (.rd .d) .nil) (BxTo_some rfl rfl rfl rfl (.cons (.rd .d) .nil) BxTo_nil)) (SlTo_cons (by first | exact .rd .d | exact .ptr rfl | exact .ref rfl | exact .any | exact Vw_int (by omega)) (SlTo_cons (by first | exact .rd .d | exact .ptr rfl | exact .ref rfl | exact .any | exact Vw_int (by omega)) (SlTo_cons (by first | exact .rd .d | exact .ptr rfl | exact .ref rfl | exact .any | exact Vw_int (by omega)) (SlTo_cons (by first | exact .rd .d | exact .ptr rfl | exact .ref rfl | exact .any | exact Vw_int (by omega)) SlTo_nil))))
          · skip
            exact Nat.zero_le _
          intro i hi
          refine AC_seq fun K15 hK15 => ?_
          refine AC_seq fun K16 hK16 => ?_
          refine AC_region ?_
          refine AL_ev (Ev_move) rfl ?_
          refine AL_ev (Ev_move) rfl ?_
          refine AL_ev (Ev_rem rfl rfl (by first | decide | omega)) rfl ?_
          first | refine AL_ev (Ev_add rfl rfl _ (wrap_id (by first | omega | (simp; omega)) (by first | omega | (simp; omega)))) rfl ?_ | refine AL_ev (Ev_add rfl rfl _ rfl) rfl ?_
          refine AL_ev (Ev_lss rfl rfl) rfl ?_
          refine AL_nil ?_
          refine hK16 _ _ _ ?_
          refine AC_cond rfl (fun hc5 => ?_) (fun hc5 => ?_)
          · skip
            have h9 : ((i : Nat) : Int) < 38 + x2.tmod 4 := of_decide_eq_true hc5
            refine AC_skip ?_
            refine hK15 _ _ _ ?_
            refine AC_seq fun K17 hK17 => ?_
            refine AC_block ?_
            refine AC_region ?_
            first | refine AL_ev (Ev_load_ptr rfl rfl rfl rfl rfl rfl ts35 ta35 (by first | rfl | assumption | simp) (by intro h; cases h)) rfl ?_ | refine AL_ev (Ev_load_rp rfl rfl rfl ts35 ta35 (by first | rfl | assumption | simp) (by intro h; cases h)) rfl ?_
            first | refine AL_bD (Lay.st [.one, .one, .one, .one]) rfl te24 ts35 tz35 rfl rfl (by decide) (by decide) (by first | rfl | simp [lenDs, goodVs, goodV, V.known, Lay.len, Lay.lens]) rfl ?_ | refine AL_bV (Lay.st [.one, .one, .one, .one]) rfl te24 ts35 tz35 rfl rfl (by decide) (by decide) (by first | rfl | simp [lenDs, goodVs, goodV, V.known, Lay.len, Lay.lens]) _ rfl rfl ?_
            refine AL_ev (Ev_buildD (fs := [.one, .one, .one, .one]) (zs := [.c (.int .i64 0), .c (.string ⟨#[]⟩), .c (.int .i64 0), .c (.slice none 0 0)]) tz35 rfl tpl35 (.cons rfl rfl (by first | rfl | simp) (.cons rfl rfl (by first | rfl | simp) (.cons rfl rfl (by first | rfl | simp) .nil))) rfl) rfl ?_
            first | refine AL_store rfl (nf rfl) rfl rfl rfl rfl rfl rfl (by first | rfl | assumption | simp [Lay.len, Lay.lens]) ts35 rfl rfl ?_ | refine AL_store rfl (nf rfl) rfl rfl rfl hes rfl rfl (by first | rfl | assumption | simp [Lay.len, Lay.lens]) ts35 rfl rfl ?_
            refine AL_nil ?_
            refine hK17 _ _ _ ?_
            refine AC_region ?_
            refine AL_ev (Ev_move) rfl ?_
            first | refine AL_ev (Ev_add rfl rfl _ (wrap_id (by first | omega | (simp; omega)) (by first | omega | (simp; omega)))) rfl ?_ | refine AL_ev (Ev_add rfl rfl _ rfl) rfl ?_
            refine AL_ev (Ev_assign) rfl ?_
            refine AL_nil ?_
            refine closeS (i + 1) [some 0, some 1] rfl rfl (by show 42 - (i + 1) < 42 - i; omega) (by show i + 1 ≤ 42; omega) (BxTo_some rfl rfl rfl rfl (.cons (.rd .d) .nil) (BxTo_some rfl rfl rfl rfl (.cons (.rd .d) .nil) BxTo_nil)) (SlTo_cons (Vw_int (by first | rfl | (simp; omega) | omega)) (SlTo_cons (by first | exact .rd .d | exact .ptr rfl | exact .ref rfl | exact .any | exact Vw_int (by omega)) (SlTo_cons (by first | exact .rd .d | exact .ptr rfl | exact .ref rfl | exact .any | exact Vw_int (by omega)) (SlTo_cons (by first | exact .rd .d | exact .ptr rfl | exact .ref rfl | exact .any | exact Vw_int (by omega)) SlTo_nil))))
          · skip
            have h9 : ¬ ((i : Nat) : Int) < 38 + x2.tmod 4 := of_decide_eq_false hc5
            refine AC_exit ?_
            refine hK5 _ _ _ ?_
            refine AC_seq fun K18 hK18 => ?_
            refine AC_region ?_
            first | refine AL_ev (Ev_load_ptr rfl rfl rfl rfl rfl rfl ts35 ta35 (by first | rfl | assumption | simp) (by intro h; cases h)) rfl ?_ | refine AL_ev (Ev_load_rp rfl rfl rfl ts35 ta35 (by first | rfl | assumption | simp) (by intro h; cases h)) rfl ?_
            first | refine AL_store rfl (nf rfl) rfl rfl rfl rfl rfl rfl (by first | rfl | assumption | simp [Lay.len, Lay.lens]) ts35 rfl rfl ?_ | refine AL_store rfl (nf rfl) rfl rfl rfl hes rfl rfl (by first | rfl | assumption | simp [Lay.len, Lay.lens]) ts35 rfl rfl ?_
            refine AL_nil ?_
            refine hK18 _ _ _ ?_
            refine AC_ret ?_
            exact retd_ok hM hcu hdm (.cell rfl rfl rfl rfl rfl rfl ts35 ta35 (by first | rfl | exact inj_isAgg _) (by intro h; cases h) .nil) .d ⟨wrapN i (.mk tk ts tm tks), rfl, by have := bulk_wrap (.mk tk ts tm tks) i; omega, .inr (wrap_none (by omega))⟩
        · skip
          refine AC_skip ?_
          refine hK5 _ _ _ ?_
          refine AC_seq fun K19 hK19 => ?_
          refine AC_region ?_
          first | refine AL_ev (Ev_load_ptr rfl rfl rfl rfl rfl rfl ts35 ta35 (by first | rfl | assumption | simp) (by intro h; cases h)) rfl ?_ | refine AL_ev (Ev_load_rp rfl rfl rfl ts35 ta35 (by first | rfl | assumption | simp) (by intro h; cases h)) rfl ?_
          first | refine AL_store rfl (nf rfl) rfl rfl rfl rfl rfl rfl (by first | rfl | assumption | simp [Lay.len, Lay.lens]) ts35 rfl rfl ?_ | refine AL_store rfl (nf rfl) rfl rfl rfl hes rfl rfl (by first | rfl | assumption | simp [Lay.len, Lay.lens]) ts35 rfl rfl ?_
          refine AL_nil ?_
          refine hK19 _ _ _ ?_
          refine AC_ret ?_
          exact retd_ok hM hcu hdm (.cell rfl rfl rfl rfl rfl rfl ts35 ta35 (by first | rfl | exact inj_isAgg _) (by intro h; cases h) .nil) .d ⟨.mk tk ts tm tks, rfl, by omega, .inl hh3⟩

set_option maxHeartbeats 1000000 in
set_option maxRecDepth 4000 in
theorem c_any21  : DLCall Try.prog 55 [] 35 LT (fun ys => ∃ ts us : List T, ys = injs (ts ++ us) ∧ Drn ts us) := by
  refine DLCall_of (n := 14) Try.func55 rfl rfl (Nat.le_of_ble_eq_true rfl) fun C0 b bs hdm hbl hT hcu => ?_
  have hM := Mk.refl C0 [b]
  refine AC_seq fun K1 hK1 => ?_
  refine AC_region ?_
  refine AL_ev (Ev_assign) rfl ?_
  refine AL_nil ?_
  refine hK1 _ _ _ ?_
  refine AC_seq fun K2 hK2 => ?_
  refine AC_region ?_
  refine AL_ev (Ev_move) rfl ?_
  refine AL_dlcall hT hcu hbl rfl cl49 (c_terms21) rfl rfl _ rfl rfl fun C1 ys1 hR1 hM1 hcu hT => ?_
  have hM := hM.trans hM1 (fun c hc _ => hc)
  obtain ⟨ts, rfl, hln, hts⟩ := hR1
  have hts2 : ∀ t ∈ ts, bulk t ≤ 623 ∧ hgt t ≤ 4 := fun t ht => ⟨(hts t ht).1, (hts t ht).2.2⟩
  refine AL_ev (Ev_assign) rfl ?_
  refine AL_nil ?_
  refine hK2 _ _ _ ?_
  refine AC_seq fun K3 hK3 => ?_
  refine AC_seq fun K4 hK4 => ?_
  refine AC_region ?_
  refine AL_ev (Ev_move) rfl ?_
  refine AL_dcall hT hcu hbl rfl cl60 (c_onceD 4 (by omega)) rfl rfl rfl fun C2 r2 hR2 hM2 hcu hT => ?_
  have hM := hM.trans hM2 (fun c hc _ => hc)
  obtain ⟨x2, rfl⟩ := hR2
  refine AL_nil ?_
  refine hK4 _ _ _ ?_
  refine AC_cond rfl (fun hc1 => ?_) (fun hc1 => ?_)
  · skip
    refine AC_region ?_
    refine AL_ev (Ev_move) rfl ?_
    refine AL_ev (Ev_move) rfl ?_
    refine AL_dcall hT hcu hbl rfl cl62 (c_any03) rfl rfl rfl fun C3 r3 hR3 hM3 hcu hT => ?_
    have hM := hM.trans hM3 (fun c hc _ => hc)
    obtain ⟨t3, rfl, hb3, ho3⟩ := hR3
    first | refine AL_bD (Lay.st [.one, .one, .one, .one]) rfl te24 ts35 tz35 rfl rfl (by decide) (by decide) (by first | rfl | simp [lenDs, goodVs, goodV, V.known, Lay.len, Lay.lens]) rfl ?_ | refine AL_bV (Lay.st [.one, .one, .one, .one]) rfl te24 ts35 tz35 rfl rfl (by decide) (by decide) (by first | rfl | simp [lenDs, goodVs, goodV, V.known, Lay.len, Lay.lens]) _ rfl rfl ?_
    first | refine AL_append rfl rfl rfl te24 ts35 tz35 rfl tb35 (by decide) (by decide) rfl (by first | rfl | (simp; done) | (simp; omega)) (Src_sl rfl) (by simp only [lim]; first | omega | (simp; done) | (simp; omega)) _ rfl rfl ?_ | refine AL_append rfl rfl rfl te24 ts35 tz35 rfl tb35 (by decide) (by decide) rfl (by first | rfl | (simp; done) | (simp; omega)) (Src_ref rfl rfl rfl (by first | rfl | (simp; done) | (simp; omega))) (by simp only [lim]; first | omega | (simp; done) | (simp; omega)) _ rfl rfl ?_ | refine AL_append rfl rfl rfl te24 ts35 tz35 rfl tb35 (by decide) (by decide) rfl (by first | rfl | (simp; done) | (simp; omega)) (Src_nil rfl) (by simp only [lim]; first | omega | (simp; done) | (simp; omega)) _ rfl rfl ?_
    refine AL_ev (Ev_assign) rfl ?_
    refine AL_nil ?_
    refine hK3 _ _ _ ?_
    refine AC_seq fun K5 hK5 => ?_
    refine AC_region ?_
    refine AL_ev (Ev_move) rfl ?_
    refine AL_ev (Ev_assign) rfl ?_
    refine AL_nil ?_
    refine hK5 _ _ _ ?_
    refine AC_ret ?_
    exact retdl_ok (ys := injs (ts ++ [t3])) hM hcu hdm (.tmp rfl rfl .nil) rfl (by simp [injs_map]) (by simp) ⟨ts, [t3], rfl, hln, by simp, hts2, by simpa using hb3⟩
  · skip
    refine AC_skip ?_
    refine hK3 _ _ _ ?_
    refine AC_seq fun K6 hK6 => ?_
    refine AC_region ?_
    refine AL_ev (Ev_move) rfl ?_
    refine AL_ev (Ev_assign) rfl ?_
    refine AL_nil ?_
    refine hK6 _ _ _ ?_
    refine AC_ret ?_
    exact retdl_ok (ys := injs ts) hM hcu hdm (.tmp rfl rfl .nil) rfl rfl (by simp) ⟨ts, [], by simp, hln, by simp, hts2, by simp⟩

set_option maxHeartbeats 1000000 in
set_option maxRecDepth 4000 in
theorem c_list21  : DCall Try.prog 56 [] (fun r => ∃ t : T, r = inj t ∧ bulk t ≤ 10000 ∧ ∀ xs, Itm t xs true → okT (mkList xs.reverse) = true) := by
  refine DCall_of (n := 10) Try.func56 rfl rfl (Nat.le_of_ble_eq_true rfl) fun C0 b bs hdm hbl hT hcu => ?_
  have hM := Mk.refl C0 [b]
  refine AC_seq fun K1 hK1 => ?_
  refine AC_region ?_
  refine AL_alloc zo35 _ rfl rfl ?_
  refine AL_nil ?_
  refine hK1 _ _ _ ?_
  refine AC_seq fun K2 hK2 => ?_
  refine AC_seq fun K3 hK3 => ?_
  refine AC_region ?_
  refine AL_ev (Ev_move) rfl ?_
  refine AL_dcall hT hcu hbl rfl cl60 (c_onceD 4 (by omega)) rfl rfl rfl fun C1 r1 hR1 hM1 hcu hT => ?_
  have hM := hM.trans hM1 (fun c hc _ => hc)
  obtain ⟨x1, rfl⟩ := hR1
  refine AL_nil ?_
  refine hK3 _ _ _ ?_
  refine AC_cond rfl (fun hc1 => ?_) (fun hc1 => ?_)
  · skip
    refine AC_seq fun K4 hK4 => ?_
    refine AC_region ?_
    refine AL_ev (Ev_move) rfl ?_
    refine AL_dcall hT hcu hbl rfl cl62 (c_any03) rfl rfl rfl fun C2 r2 hR2 hM2 hcu hT => ?_
    have hM := hM.trans hM2 (fun c hc _ => hc)
    obtain ⟨t2, rfl, hb2, ho2⟩ := hR2
    first | refine AL_store rfl (nf rfl) rfl rfl rfl rfl rfl rfl (by first | rfl | assumption | simp [Lay.len, Lay.lens]) ts35 rfl rfl ?_ | refine AL_store rfl (nf rfl) rfl rfl rfl hes rfl rfl (by first | rfl | assumption | simp [Lay.len, Lay.lens]) ts35 rfl rfl ?_
    refine AL_nil ?_
    refine hK4 _ _ _ ?_
    refine AC_ret ?_
    exact retd_ok hM hcu hdm (.cell rfl rfl rfl rfl rfl rfl ts35 ta35 (by first | rfl | exact inj_isAgg _) (by intro h; cases h) .nil) .d ⟨t2, rfl, by omega, by rcases ho2 with h | ⟨h, h9⟩; exact back_low h; exact back_none h h9⟩
  · skip
    refine AC_skip ?_
    refine hK2 _ _ _ ?_
    refine AC_seq fun K5 hK5 => ?_
    refine AC_region ?_
    refine AL_ev (Ev_move) rfl ?_
    refine AL_dlcall hT hcu hbl rfl cl55 (c_any21) rfl rfl _ rfl rfl fun C3 ys3 hR3 hM3 hcu hT => ?_
    have hM := hM.trans hM3 (fun c hc _ => hc)
    obtain ⟨ts, us, rfl, hdr⟩ := hR3
    have hfw := hdr.few
    refine AL_wk (Wk_to [some 0] [(2, .ptr LT 0 0 []), (8, .d (.sl LT (injs (ts ++ us))))] [some ⟨35, LT, [.d zT]⟩] rfl rfl (BxTo_some rfl rfl rfl rfl (.cons (.rd .d) .nil) BxTo_nil) (SlTo_cons (.ptr rfl) (SlTo_cons (.rd (.ref (srcFree rfl) rfl rfl (by simp) (ReadsL_eq (by simp [injs_map])))) SlTo_nil)) ?_)
    refine AL_fcall0 hT rfl cl85 (c_make21 (ts ++ us)) rfl rfl ?_
    first | refine AL_store rfl (nf rfl) rfl rfl rfl rfl rfl rfl (by first | rfl | assumption | simp [Lay.len, Lay.lens]) ts35 rfl rfl ?_ | refine AL_store rfl (nf rfl) rfl rfl rfl hes rfl rfl (by first | rfl | assumption | simp [Lay.len, Lay.lens]) ts35 rfl rfl ?_
    refine AL_nil ?_
    refine hK5 _ _ _ ?_
    refine AC_ret ?_
    exact retd_ok hM hcu hdm (.cell rfl rfl rfl rfl rfl rfl ts35 ta35 (by first | rfl | exact inj_isAgg _) (by intro h; cases h) .nil) .d ⟨_, rfl, hfw.2.2.2, back_list hdr.1 hdr.2.1 fun t ht => (hdr.2.2.1 t ht).2⟩

set_option maxHeartbeats 1000000 in
set_option maxRecDepth 4000 in
theorem c_drawListTerm (bs : List Int) (hbl : bs.length ≤ lim) : PCall Try.prog 21 [.sl .one (u8s bs)] (fun rs => ∃ ts us : List T, rs = [.sl LT (injs (ts ++ us))] ∧ Drn ts us) := by
  refine PCall_of (n := 6) Try.func21 rfl rfl (Nat.le_of_ble_eq_true rfl) fun C hdm hT0 => ?_
  have hT := hT0
  have hX0 := CExt.refl C
  refine AC_seq fun K1 hK1 => ?_
  refine AC_region ?_
  refine AL_ev (Ev_assign) rfl ?_
  refine AL_nil ?_
  refine hK1 _ _ _ ?_
  refine AC_seq fun K2 hK2 => ?_
  refine AC_region ?_
  refine AL_ev (Ev_move) rfl ?_
  refine AL_newcur hT rfl cl50 c_new rfl rfl fun C1 b hx1 hlo hcu => ?_
  have hlo0 := hlo
  have hX1 := hX0.trans hx1
  have hT := hT.ext hx1
  refine AL_dlcall hT hcu hbl rfl cl55 (c_any21) rfl rfl _ rfl rfl fun C2 ys2 hR2 hM2 hcu hT => ?_
  have hX2 := hX1.marked hM2 (fun c hc => .inr (by rw [List.mem_singleton.1 hc]; exact hlo0))
  obtain ⟨ts, us, rfl, hdr⟩ := hR2
  have hfw := hdr.few
  refine AL_ev (Ev_assign) rfl ?_
  refine AL_nil ?_
  refine hK2 _ _ _ ?_
  refine AC_ret ?_
  exact ret_okX hX2 hdm (.tmp rfl rfl .nil) (.cons (.ref trivial rfl rfl (by simp) (ReadsL_d _)) .nil) ⟨ts, us, rfl, hdr⟩

set_option maxHeartbeats 1000000 in
set_option maxRecDepth 4000 in
theorem c_drawSortedAll (bs : List Int) (hbl : bs.length ≤ lim) : PCall Try.prog 26 [.sl .one (u8s bs)] (fun rs => ∃ ts us : List T, rs = [.sl LT (injs (ts ++ us))] ∧ Drn ts us) := by
  refine PCall_of (n := 6) Try.func26 rfl rfl (Nat.le_of_ble_eq_true rfl) fun C hdm hT0 => ?_
  have hT := hT0
  have hX0 := CExt.refl C
  refine AC_seq fun K1 hK1 => ?_
  refine AC_region ?_
  refine AL_ev (Ev_assign) rfl ?_
  refine AL_nil ?_
  refine hK1 _ _ _ ?_
  refine AC_seq fun K2 hK2 => ?_
  refine AC_region ?_
  refine AL_ev (Ev_move) rfl ?_
  refine AL_newcur hT rfl cl50 c_new rfl rfl fun C1 b hx1 hlo hcu => ?_
  have hlo0 := hlo
  have hX1 := hX0.trans hx1
  have hT := hT.ext hx1
  refine AL_dlcall hT hcu hbl rfl cl55 (c_any21) rfl rfl _ rfl rfl fun C2 ys2 hR2 hM2 hcu hT => ?_
  have hX2 := hX1.marked hM2 (fun c hc => .inr (by rw [List.mem_singleton.1 hc]; exact hlo0))
  obtain ⟨ts, us, rfl, hdr⟩ := hR2
  have hfw := hdr.few
  refine AL_ev (Ev_assign) rfl ?_
  refine AL_nil ?_
  refine hK2 _ _ _ ?_
  refine AC_ret ?_
  exact ret_okX hX2 hdm (.tmp rfl rfl .nil) (.cons (.ref trivial rfl rfl (by simp) (ReadsL_d _)) .nil) ⟨ts, us, rfl, hdr⟩

set_option maxHeartbeats 1000000 in
set_option maxRecDepth 4000 in
theorem c_drawItemsOf (bs : List Int) (hbl : bs.length ≤ lim) : PCall Try.prog 22 [.sl .one (u8s bs)] (fun rs => ∃ t : T, rs = [inj t] ∧ bulk t ≤ 10000) := by
  refine PCall_of (n := 6) Try.func22 rfl rfl (Nat.le_of_ble_eq_true rfl) fun C hdm hT0 => ?_
  have hT := hT0
  have hX0 := CExt.refl C
  refine AC_seq fun K1 hK1 => ?_
  refine AC_region ?_
  refine AL_alloc zo35 _ rfl rfl ?_
  refine AL_nil ?_
  refine hK1 _ _ _ ?_
  refine AC_seq fun K2 hK2 => ?_
  refine AC_region ?_
  refine AL_ev (Ev_move) rfl ?_
  refine AL_newcur hT rfl cl50 c_new rfl rfl fun C1 b hx1 hlo hcu => ?_
  have hlo0 := hlo
  have hX1 := hX0.trans hx1
  have hT := hT.ext hx1
  refine AL_dcall hT hcu hbl rfl cl56 (c_list21) rfl rfl rfl fun C2 r2 hR2 hM2 hcu hT => ?_
  have hX2 := hX1.marked hM2 (fun c hc => .inr (by rw [List.mem_singleton.1 hc]; exact hlo0))
  obtain ⟨t2, rfl, hb2, ho2⟩ := hR2
  first | refine AL_store rfl (nf rfl) rfl rfl rfl rfl rfl rfl (by first | rfl | assumption | simp [Lay.len, Lay.lens]) ts35 rfl rfl ?_ | refine AL_store rfl (nf rfl) rfl rfl rfl hes rfl rfl (by first | rfl | assumption | simp [Lay.len, Lay.lens]) ts35 rfl rfl ?_
  refine AL_nil ?_
  refine hK2 _ _ _ ?_
  refine AC_ret ?_
  exact ret_okX hX2 hdm (.cell rfl rfl rfl rfl rfl rfl ts35 ta35 (by first | rfl | exact inj_isAgg _) (by intro h; cases h) .nil) (.cons .d .nil) ⟨t2, rfl, hb2⟩

set_option maxHeartbeats 1000000 in
set_option maxRecDepth 4000 in
theorem c_drawTermIn (bs : List Int) (hbl : bs.length ≤ lim) : PCall Try.prog 25 [.sl .one (u8s bs)] (fun rs => ∃ (ks : List T) (t : T), rs = [.sl LT (injs ks), inj t]) := by
  refine PCall_of (n := 28) Try.func25 rfl rfl (Nat.le_of_ble_eq_true rfl) fun C hdm hT0 => ?_
  have hT := hT0
  have hX0 := CExt.refl C
  refine AC_seq fun K1 hK1 => ?_
  refine AC_region ?_
  refine AL_ev (Ev_assign) rfl ?_
  refine AL_alloc zo35 _ rfl rfl ?_
  refine AL_nil ?_
  refine hK1 _ _ _ ?_
  refine AC_seq fun K2 hK2 => ?_
  refine AC_region ?_
  refine AL_ev (Ev_move) rfl ?_
  refine AL_newcur hT rfl cl50 c_new rfl rfl fun C1 b hx1 hlo hcu => ?_
  have hlo0 := hlo
  have hX1 := hX0.trans hx1
  have hT := hT.ext hx1
  refine AL_ev (Ev_assign) rfl ?_
  refine AL_nil ?_
  refine hK2 _ _ _ ?_
  refine AC_seq fun K3 hK3 => ?_
  refine AC_region ?_
  refine AL_ev (Ev_move) rfl ?_
  refine AL_dlcall hT hcu hbl rfl cl55 (c_any21) rfl rfl _ rfl rfl fun C2 ys2 hR2 hM2 hcu hT => ?_
  have hX2 := hX1.marked hM2 (fun c hc => .inr (by rw [List.mem_singleton.1 hc]; exact hlo0))
  obtain ⟨ts, us, rfl, hdr⟩ := hR2
  have hfw := hdr.few
  refine AL_ev (Ev_assign) rfl ?_
  refine AL_nil ?_
  refine hK3 _ _ _ ?_
  refine AC_seq fun K4 hK4 => ?_
  refine AC_seq fun K5 hK5 => ?_
  refine AC_region ?_
  refine AL_ev (Ev_move) rfl ?_
  first | refine AL_lim (x := (Operand.tmp 10)) rfl fun hl1 => ?_ | refine AL_limB (x := (Operand.tmp 10)) rfl rfl (by first | rfl | (simp; done) | (simp; omega)) fun hl1 => ?_ | have hl1 := True.intro
  try simp only [injs_length, ints_length, strs_length, injCs_length, u8s_length, List.length_map] at hl1
  first | refine AL_ev (Ev_len_injs te24 rfl) rfl ?_ | refine AL_ev (Ev_len_sl te24 rfl) rfl ?_ | refine AL_ev (Ev_len_ref te24 rfl) rfl ?_ | refine AL_ev (Ev_len_nil te24 rfl) rfl ?_ | refine AL_ev (Ev_len_c te24 rfl) rfl ?_
  refine AL_ev (Ev_gtr rfl rfl) rfl ?_
  refine AL_ev (Ev_move) rfl ?_
  refine AL_bool 13 rfl (fun hg1 => ?_) (fun hg1 => ?_)
  · skip
    have h2 : 0 < (ts ++ us).length := by have h3 := of_decide_eq_true hg1; rw [injs_length] at h3; omega
    refine AL_guard_t rfl rfl rfl ?_
    refine AL_ev (Ev_move) rfl ?_
    refine AL_guard_t rfl rfl rfl ?_
    refine AL_dcall hT hcu hbl rfl cl60 (c_onceD 2 (by omega)) rfl rfl rfl fun C3 r3 hR3 hM3 hcu hT => ?_
    have hX3 := hX2.marked hM3 (fun c hc => .inr (by rw [List.mem_singleton.1 hc]; exact hlo0))
    obtain ⟨x3, rfl⟩ := hR3
    refine AL_ev (Ev_pick rfl) rfl ?_
    refine AL_nil ?_
    refine hK5 _ _ _ ?_
    refine AC_cond rfl (fun hc2 => ?_) (fun hc2 => ?_)
    · skip
      refine AC_seq fun K6 hK6 => ?_
      refine AC_draw hT follows [0, 1, 2, 3, 4, 5, 6, 7, 8, 9] (by kernel_rfl) ?_
      refine DT_ev rfl (EA_move) rfl ?_
      refine DT_ev rfl (EA_move) rfl ?_
      refine DT_ev rfl (EA_move) rfl ?_
      refine DT_ev rfl (EA_move) rfl ?_
      first | refine DT_ev rfl (EA_len_injs te24 rfl) rfl ?_ | refine DT_ev rfl (EA_len_sl te24 rfl) rfl ?_ | refine DT_ev rfl (EA_len_ref te24 rfl) rfl ?_ | refine DT_ev rfl (EA_len_nil te24 rfl) rfl ?_
      refine DT_dcall hT hcu hbl rfl rfl cl61 (c_below ((injs (ts ++ us)).length : Int) (by rw [injs_length]; omega)) rfl rfl rfl (by kernel_rfl) fun C4 r4 hR4 hM4 hcu hT => ?_
      have hX4 := hX3.marked hM4 (fun c hc => .inr (by rw [List.mem_singleton.1 hc]; exact hlo0))
      obtain ⟨x4, rfl, hx4, hy4⟩ := hR4
      rw [injs_length] at hy4
      have hlt : x4.toNat < (ts ++ us).length := by omega
      have hlt2 := hlt
      rw [List.length_append] at hlt2
      obtain ⟨t0, h0⟩ : ∃ t, (ts ++ us)[x4.toNat]? = some t := ⟨_, List.getElem?_eq_getElem hlt⟩
      have hes : ((injs (ts ++ us)).map V.d)[0 + x4.toNat]? = some (.d (inj t0)) := by have := injs_get h0; simpa using this
      first | refine DT_ev rfl (EA_ix_sl rfl rfl te24 ts35 (by omega) (by assumption)) rfl ?_ | refine DT_ev rfl (EA_ix_ref rfl rfl te24 ts35 (by omega) (by first | omega | (simp; omega))) rfl ?_
      first | refine DT_ev rfl (EA_load_ptr rfl rfl rfl hes rfl rfl ts35 ta35 (by first | rfl | assumption | simp) (by intro h; cases h)) rfl ?_ | refine DT_ev rfl (EA_load_ptr rfl rfl rfl rfl rfl rfl ts35 ta35 (by first | rfl | assumption | simp) (by intro h; cases h)) rfl ?_ | refine DT_ev rfl (EA_load_rp rfl rfl rfl ts35 ta35 (by first | rfl | assumption | simp) (by intro h; cases h)) rfl ?_
      refine DT_ev rfl (EA_assign) rfl ?_
      first | refine DT_store rfl rfl (nf rfl) rfl rfl rfl rfl rfl rfl (by first | rfl | assumption | simp [Lay.len, Lay.lens]) ts35 rfl rfl ?_ | refine DT_store rfl rfl (nf rfl) rfl rfl rfl hes rfl rfl (by first | rfl | assumption | simp [Lay.len, Lay.lens]) ts35 rfl rfl ?_
      refine DTi.nil ?_
      refine hK6 _ _ _ ?_
      refine AC_ret ?_
      exact ret_okX hX4 hdm (.tmp rfl rfl (.cell rfl rfl rfl rfl rfl rfl ts35 ta35 (by first | rfl | exact inj_isAgg _) (by intro h; cases h) .nil)) (.cons (.ref trivial rfl rfl (by simp) (ReadsL_d _)) (.cons .d .nil)) ⟨_, _, rfl⟩
    · skip
      refine AC_skip ?_
      refine hK4 _ _ _ ?_
      refine AC_seq fun K7 hK7 => ?_
      refine AC_region ?_
      refine AL_ev (Ev_move) rfl ?_
      refine AL_ev (Ev_move) rfl ?_
      refine AL_dcall hT hcu hbl rfl cl62 (c_any03) rfl rfl rfl fun C5 r5 hR5 hM5 hcu hT => ?_
      have hX5 := hX3.marked hM5 (fun c hc => .inr (by rw [List.mem_singleton.1 hc]; exact hlo0))
      obtain ⟨t5, rfl, hb5, ho5⟩ := hR5
      refine AL_ev (Ev_assign) rfl ?_
      first | refine AL_store rfl (nf rfl) rfl rfl rfl rfl rfl rfl (by first | rfl | assumption | simp [Lay.len, Lay.lens]) ts35 rfl rfl ?_ | refine AL_store rfl (nf rfl) rfl rfl rfl hes rfl rfl (by first | rfl | assumption | simp [Lay.len, Lay.lens]) ts35 rfl rfl ?_
      refine AL_nil ?_
      refine hK7 _ _ _ ?_
      refine AC_ret ?_
      exact ret_okX hX5 hdm (.tmp rfl rfl (.cell rfl rfl rfl rfl rfl rfl ts35 ta35 (by first | rfl | exact inj_isAgg _) (by intro h; cases h) .nil)) (.cons (.ref trivial rfl rfl (by simp) (ReadsL_d _)) (.cons .d .nil)) ⟨_, _, rfl⟩
  · skip
    refine AL_guard_f rfl rfl rfl rfl ?_
    refine AL_guard_f rfl rfl rfl rfl ?_
    refine AL_ev (Ev_pick rfl) rfl ?_
    refine AL_nil ?_
    refine hK5 _ _ _ ?_
    first | refine AC_cond_f rfl ?_ | refine AC_cond_f (congrArg bl hc2) ?_
    refine AC_skip ?_
    refine hK4 _ _ _ ?_
    refine AC_seq fun K8 hK8 => ?_
    refine AC_region ?_
    refine AL_ev (Ev_move) rfl ?_
    refine AL_ev (Ev_move) rfl ?_
    refine AL_dcall hT hcu hbl rfl cl62 (c_any03) rfl rfl rfl fun C6 r6 hR6 hM6 hcu hT => ?_
    have hX6 := hX2.marked hM6 (fun c hc => .inr (by rw [List.mem_singleton.1 hc]; exact hlo0))
    obtain ⟨t6, rfl, hb6, ho6⟩ := hR6
    refine AL_ev (Ev_assign) rfl ?_
    first | refine AL_store rfl (nf rfl) rfl rfl rfl rfl rfl rfl (by first | rfl | assumption | simp [Lay.len, Lay.lens]) ts35 rfl rfl ?_ | refine AL_store rfl (nf rfl) rfl rfl rfl hes rfl rfl (by first | rfl | assumption | simp [Lay.len, Lay.lens]) ts35 rfl rfl ?_
    refine AL_nil ?_
    refine hK8 _ _ _ ?_
    refine AC_ret ?_
    exact ret_okX hX6 hdm (.tmp rfl rfl (.cell rfl rfl rfl rfl rfl rfl ts35 ta35 (by first | rfl | exact inj_isAgg _) (by intro h; cases h) .nil)) (.cons (.ref trivial rfl rfl (by simp) (ReadsL_d _)) (.cons .d .nil)) ⟨_, _, rfl⟩

set_option maxHeartbeats 1000000 in
set_option maxRecDepth 4000 in
theorem c_drawJoined (bs : List Int) (hbl : bs.length ≤ lim) : PCall Try.prog 27 [.sl .one (u8s bs)] (fun rs => ∃ a b : T, rs = [inj a, inj b] ∧ bulk a ≤ 10000 ∧ bulk b ≤ 10000 ∧ ∀ xs, Itm a xs true → okT (mkList xs.reverse) = true) := by
  refine PCall_of (n := 13) Try.func27 rfl rfl (Nat.le_of_ble_eq_true rfl) fun C hdm hT0 => ?_
  have hT := hT0
  have hX0 := CExt.refl C
  refine AC_seq fun K1 hK1 => ?_
  refine AC_region ?_
  refine AL_alloc zo35 _ rfl rfl ?_
  refine AL_alloc zo35 _ rfl rfl ?_
  refine AL_nil ?_
  refine hK1 _ _ _ ?_
  refine AC_seq fun K2 hK2 => ?_
  refine AC_region ?_
  refine AL_ev (Ev_move) rfl ?_
  refine AL_newcur hT rfl cl50 c_new rfl rfl fun C1 b hx1 hlo hcu => ?_
  have hlo0 := hlo
  have hX1 := hX0.trans hx1
  have hT := hT.ext hx1
  refine AL_ev (Ev_assign) rfl ?_
  refine AL_nil ?_
  refine hK2 _ _ _ ?_
  refine AC_seq fun K3 hK3 => ?_
  refine AC_region ?_
  refine AL_ev (Ev_move) rfl ?_
  refine AL_dcall hT hcu hbl rfl cl56 (c_list21) rfl rfl rfl fun C2 r2 hR2 hM2 hcu hT => ?_
  have hX2 := hX1.marked hM2 (fun c hc => .inr (by rw [List.mem_singleton.1 hc]; exact hlo0))
  obtain ⟨t2, rfl, hb2, ho2⟩ := hR2
  refine AL_alloc zo35 _ rfl rfl ?_
  first | refine AL_store rfl (nf rfl) rfl rfl rfl rfl rfl rfl (by first | rfl | assumption | simp [Lay.len, Lay.lens]) ts35 rfl rfl ?_ | refine AL_store rfl (nf rfl) rfl rfl rfl hes rfl rfl (by first | rfl | assumption | simp [Lay.len, Lay.lens]) ts35 rfl rfl ?_
  refine AL_nil ?_
  refine hK3 _ _ _ ?_
  refine AC_seq fun K4 hK4 => ?_
  refine AC_draw hT follows [0, 1, 2, 3, 4] (by kernel_rfl) ?_
  first | refine DT_ev rfl (EA_load_ptr rfl rfl rfl rfl rfl rfl ts35 ta35 (by first | rfl | assumption | simp) (by intro h; cases h)) rfl ?_ | refine DT_ev rfl (EA_load_rp rfl rfl rfl ts35 ta35 (by first | rfl | assumption | simp) (by intro h; cases h)) rfl ?_
  refine DT_ev rfl (EA_move) rfl ?_
  refine DT_dcall hT hcu hbl rfl rfl cl56 (c_list21) rfl rfl rfl (by kernel_rfl) fun C3 r3 hR3 hM3 hcu hT => ?_
  have hX3 := hX2.marked hM3 (fun c hc => .inr (by rw [List.mem_singleton.1 hc]; exact hlo0))
  obtain ⟨t3, rfl, hb3, ho3⟩ := hR3
  first | refine DT_store rfl rfl (nf rfl) rfl rfl rfl rfl rfl rfl (by first | rfl | assumption | simp [Lay.len, Lay.lens]) ts35 rfl rfl ?_ | refine DT_store rfl rfl (nf rfl) rfl rfl rfl hes rfl rfl (by first | rfl | assumption | simp [Lay.len, Lay.lens]) ts35 rfl rfl ?_
  first | refine DT_store rfl rfl (nf rfl) rfl rfl rfl rfl rfl rfl (by first | rfl | assumption | simp [Lay.len, Lay.lens]) ts35 rfl rfl ?_ | refine DT_store rfl rfl (nf rfl) rfl rfl rfl hes rfl rfl (by first | rfl | assumption | simp [Lay.len, Lay.lens]) ts35 rfl rfl ?_
  refine DTi.nil ?_
  refine hK4 _ _ _ ?_
  refine AC_ret ?_
  exact ret_okX hX3 hdm (.cell rfl rfl rfl rfl rfl rfl ts35 ta35 (by first | rfl | exact inj_isAgg _) (by intro h; cases h) (.cell rfl rfl rfl rfl rfl rfl ts35 ta35 (by first | rfl | exact inj_isAgg _) (by intro h; cases h) .nil)) (.cons .d (.cons .d .nil)) ⟨t2, t3, rfl, hb2, hb3, ho2⟩

end Go.Proofs.Ytjhdkjacfclipaa
