/- Contracts of functions. -/
import Derived.Test.YtjhdkjacfclipaaMt
import Derived.Test.YtjhdkjacfclipaaOk
import Derived.Test.YtjhdkjacfclipaaWn
import Derived.Test.YtjhdkjacfclipaaEng27
import Derived.Test.YtjhdkjacfclipaaSl
import Derived.Test.YtjhdkjacfclipaaOw
import Derived.Test.YtjhdkjacfclipaaGd
import Derived.Test.YtjhdkjacfclipaaProg
import Derived.KernelRfl
import Derived.Test.YtjhdkjacfclipaaCA
import Derived.Test.YtjhdkjacfclipaaCO
import Derived.Test.YtjhdkjacfclipaaCS
import Derived.Test.YtjhdkjacfclipaaCV
set_option linter.unusedVariables false
set_option linter.unusedSimpArgs false
namespace Go.Proofs.Ytjhdkjacfclipaa
open Go.Eng

theorem cl10 : Callable Try.prog 10 := Callable_of Try.func10 (by kernel_rfl) (by kernel_rfl)
theorem cl8 : Callable Try.prog 8 := Callable_of Try.func8 (by kernel_rfl) (by kernel_rfl)

set_option maxHeartbeats 4000000 in
set_option maxRecDepth 4000 in
theorem c_lawSortedAll (ts : List T) (hb : (ts.length : Int) + bulkL ts ≤ 1048576) : PCall Try.prog 3 [.sl LT (injs ts)] (· = [.c (.bool true)]) := by
  have hln0 := bulkL_nn ts
  have hbm : ∀ t ∈ ts, bulk t ≤ 1099511627775 := fun t ht => by have := bulkL_mem ht; omega
  have hsk := szs_bulk ts
  have hcs := cntL_nn ts
  have hsc := cntL_sz ts
  have hS : OTCall Try.prog 10 [.sl LT (injs ts)] 35 LT (injs (sortF ts [])) [] := c_sortedAll ts hbm
  have hrl : cntL (sortF ts []) ≤ 1099511627776 - 1 := by have := sortF_szs ts; have := cntL_sz (sortF ts []); omega
  have hmn := cntL_nn (sortF ts [])
  refine PCall_of (n := 69) Try.func3 rfl rfl (Nat.le_of_ble_eq_true rfl) fun C hdm hT0 => ?_
  have hT := hT0
  have hX0 := CExt.refl C
  refine AC_seq fun K1 hK1 => ?_
  refine AC_region ?_
  refine AL_ev (Ev_assign) rfl ?_
  refine AL_nil ?_
  refine hK1 _ _ _ ?_
  refine AC_seq fun K2 hK2 => ?_
  refine AC_region ?_
  refine AL_ev (Ev_assign) rfl ?_
  refine AL_nil ?_
  refine hK2 _ _ _ ?_
  refine AC_seq fun K3 hK3 => ?_
  refine AC_region ?_
  refine AL_ev (Ev_move) rfl ?_
  refine AL_ev (Ev_move) rfl ?_
  refine AL_fcall0 hT rfl cl7 (c_szTermS ts (fun u _ l h0 h9 => c_szTerm u l h0 h9) 1048576 hb (by omega)) rfl rfl ?_
  refine AL_ev (Ev_assign) rfl ?_
  refine AL_nil ?_
  refine hK3 _ _ _ ?_
  refine AC_seq fun K4 hK4 => ?_
  refine AC_seq fun K5 hK5 => ?_
  refine AC_region ?_
  refine AL_ev (Ev_move) rfl ?_
  refine AL_ev (Ev_lss rfl rfl) rfl ?_
  refine AL_nil ?_
  refine hK5 _ _ _ ?_
  refine AC_cond rfl (fun hc1 => ?_) (fun hc1 => ?_)
  · skip
    have : (1048576 : Int) - ((ts.length : Int) + bulkL ts) < 0 := by simpa using hc1
    omega
  · skip
    refine AC_skip ?_
    refine hK4 _ _ _ ?_
    refine AC_seq fun K6 hK6 => ?_
    refine AC_region ?_
    refine AL_ev (Ev_move) rfl ?_
    refine AL_fcall0 hT rfl cl9 ((c_toTermS ts (fun u _ => c_toTerm u)).pcall) rfl rfl ?_
    refine AL_fcall0 hT rfl cl8 (c_specSortedAll ts (fun t ht => by have := hbm t ht; omega)) rfl rfl ?_
    refine AL_ev (Ev_assign) rfl ?_
    refine AL_nil ?_
    refine hK6 _ _ _ ?_
    refine AC_seq fun K7 hK7 => ?_
    refine AC_region ?_
    refine AL_ev (Ev_move) rfl ?_
    refine AL_ocall0 hT .one rfl cl9 (c_toTermS ts (fun u _ => c_toTerm u)) rfl rfl rfl rfl fun C1 cs1 K1 hg1 => ?_
    have hX1 := hX0.trans hg1.ext
    have hT := hT.ext hg1.ext
    obtain ⟨A1, rfl⟩ := one_cell_of hg1.has
    have hx := hg1.has
    refine AL_ev (Ev_assign) rfl ?_
    refine AL_nil ?_
    refine hK7 _ _ _ ?_
    refine AC_seq fun K8 hK8 => ?_
    refine AC_region ?_
    refine AL_ev (Ev_move) rfl ?_
    refine AL_qotcall hT rfl cl10 hS rfl (.cons (.raw (l := .one) (cs := [A1]) hx rfl rfl) .nil) rfl fun C9 A9 K9 hg9 => ?_
    have hap := hg9.apart hx
    have hx := hx.ext hg9.ext
    have hX9 := hX1.trans hg9.ext
    have hT := hT.ext hg9.ext
    have hG := hg9.has
    refine AL_ev (Ev_assign) rfl ?_
    refine AL_nil ?_
    refine hK8 _ _ _ ?_
    refine AC_seq fun K9 hK9 => ?_
    refine AC_seq fun K10 hK10 => ?_
    refine AC_region ?_
    refine AL_ev (Ev_move) rfl ?_
    refine AL_ev (Ev_move) rfl ?_
    refine AL_qcall hT rfl cl11 (c_eqTermS (sortF ts []) (fun u _ => c_eqTerm u)) (.cons (.raw (l := .one) (cs := [A9]) hG rfl rfl) (.cons (.rd .d) .nil)) rfl ?_
    refine AL_ev (Ev_not rfl) rfl ?_
    refine AL_nil ?_
    refine hK10 _ _ _ ?_
    refine AC_cond rfl (fun hc2 => ?_) (fun hc2 => ?_)
    · skip
      exact absurd hc2 (by simp)
    · skip
      refine AC_skip ?_
      refine hK9 _ _ _ ?_
      refine AC_seq fun K11 hK11 => ?_
      refine AC_seq fun K12 hK12 => ?_
      refine AC_region ?_
      refine AL_ev (Ev_move) rfl ?_
      refine AL_ev (Ev_move) rfl ?_
      refine AL_fcall0 hT rfl cl9 ((c_toTermS ts (fun u _ => c_toTerm u)).pcall) rfl rfl ?_
      refine AL_qcall hT rfl cl11 (c_eqTermS ts (fun u _ => c_eqTerm u)) (.cons (.raw (l := .one) (cs := [A1]) hx rfl rfl) (.cons (.rd .d) .nil)) rfl ?_
      refine AL_ev (Ev_not rfl) rfl ?_
      refine AL_nil ?_
      refine hK12 _ _ _ ?_
      refine AC_cond rfl (fun hc3 => ?_) (fun hc3 => ?_)
      · skip
        exact absurd hc3 (by simp)
      · skip
        refine AC_skip ?_
        refine hK11 _ _ _ ?_
        refine AC_seq fun K13 hK13 => ?_
        refine AC_region ?_
        refine AL_ev (Ev_assign) rfl ?_
        refine AL_nil ?_
        refine hK13 _ _ _ ?_
        refine AC_seq fun K14 hK14 => ?_
        refine AC_region ?_
        refine AL_ev (Ev_move) rfl ?_
        refine AL_ev (Ev_move) rfl ?_
        refine AL_mwk .one rfl cl12 ((show MCall Try.prog 12 (.sl LT (injs ts)) 1 (.sl LT (injs (mkL 1 ts))) (1 + cntL ts) from c_markKids (.mk 0 ⟨#[]⟩ 0 ts) 1 (by omega) (by simp only [T.kids]; omega)).weak) hx rfl rfl rfl rfl rfl fun C3 hk3 => ?_
        have hX3 := hX9.marked hk3 (fun b hb => .inr (hx.lo b hb))
        have hT := hT0.ext hX3
        have hG := hG.marked hk3 hap
        refine AL_ev (Ev_assign) rfl ?_
        refine AL_nil ?_
        refine hK14 _ _ _ ?_
        refine AC_seq fun K15 hK15 => ?_
        refine AC_seq fun K16 hK16 => ?_
        refine AC_region ?_
        refine AL_ev (Ev_move) rfl ?_
        refine AL_ev (Ev_lss rfl rfl) rfl ?_
        refine AL_ev (Ev_move) rfl ?_
        refine AL_bool 37 rfl (fun hg4 => ?_) (fun hg4 => ?_)
        · skip
          have : (1 : Int) + cntL ts < 0 := by simpa [Int.add_assoc] using hg4
          omega
        · skip
          refine AL_guard_t rfl rfl rfl ?_
          refine AL_ev (Ev_move) rfl ?_
          refine AL_guard_t rfl rfl rfl ?_
          refine AL_ev (Ev_move) rfl ?_
          refine AL_guard_t rfl rfl rfl ?_
          refine AL_qcall hT rfl cl11 (c_eqTermS (sortF ts []) (fun u _ => c_eqTerm u)) (.cons (.raw (l := .one) (cs := [A9]) hG rfl rfl) (.cons (.rd .d) .nil)) rfl ?_
          refine AL_guard_t rfl rfl rfl ?_
          refine AL_ev (Ev_not rfl) rfl ?_
          refine AL_ev (Ev_pick rfl) rfl ?_
          refine AL_nil ?_
          refine hK16 _ _ _ ?_
          refine AC_cond rfl (fun hc5 => ?_) (fun hc5 => ?_)
          · skip
            exact absurd hc5 (by simp)
          · skip
            refine AC_skip ?_
            refine hK15 _ _ _ ?_
            refine AC_seq fun K17 hK17 => ?_
            refine AC_region ?_
            refine AL_ev (Ev_assign) rfl ?_
            refine AL_nil ?_
            refine hK17 _ _ _ ?_
            refine AC_seq fun K18 hK18 => ?_
            refine AC_region ?_
            refine AL_ev (Ev_move) rfl ?_
            refine AL_ev (Ev_move) rfl ?_
            refine AL_mcall .one rfl cl12 ((show MCall Try.prog 12 (.sl LT (injs (sortF ts []))) 1 (.sl LT (injs (mkL 1 (sortF ts [])))) (1 + cntL (sortF ts [])) from c_markKids (.mk 0 ⟨#[]⟩ 0 (sortF ts [])) 1 (by omega) (by simp only [T.kids]; omega))) hG rfl rfl rfl rfl rfl fun C4 hk4 hG4 => ?_
            have hX4 := hX3.marked hk4 (fun b hb => .inr (Nat.le_trans hX1.pres.size (hG.lo b hb)))
            have hT := hT0.ext hX4
            refine AL_ev (Ev_assign) rfl ?_
            refine AL_nil ?_
            refine hK18 _ _ _ ?_
            refine AC_seq fun K19 hK19 => ?_
            refine AC_region ?_
            refine AL_ev (Ev_assign) rfl ?_
            refine AL_nil ?_
            refine hK19 _ _ _ ?_
            refine AC_seq fun K20 hK20 => ?_
            refine AC_region ?_
            refine AL_ev (Ev_move) rfl ?_
            refine AL_ev (Ev_move) rfl ?_
            refine AL_qcall hT rfl cl13 ((show PCall Try.prog 13 [.sl LT (injs (mkL 1 (sortF ts []))), .c (.int .i64 1)] (· = [.c (.int .i64 (1 + cntL (sortF ts [])))]) from c_heldKids (.mk 0 ⟨#[]⟩ 0 (sortF ts [])) 1 (by omega) (by simp only [T.kids]; omega))) (.cons (.raw (l := .one) (cs := [A9]) hG4 rfl rfl) (.cons (.rd .d) .nil)) rfl ?_
            refine AL_ev (Ev_assign) rfl ?_
            refine AL_nil ?_
            refine hK20 _ _ _ ?_
            refine AC_seq fun K21 hK21 => ?_
            refine AC_seq fun K22 hK22 => ?_
            refine AC_region ?_
            refine AL_ev (Ev_move) rfl ?_
            refine AL_ev (Ev_lss rfl rfl) rfl ?_
            refine AL_nil ?_
            refine hK22 _ _ _ ?_
            refine AC_cond rfl (fun hc6 => ?_) (fun hc6 => ?_)
            · skip
              have : (1 : Int) + cntL (sortF ts []) < 0 := by simpa using hc6
              omega
            · skip
              refine AC_skip ?_
              refine hK21 _ _ _ ?_
              refine AC_seq fun K23 hK23 => ?_
              refine AC_seq fun K24 hK24 => ?_
              refine AC_region ?_
              refine AL_ev (Ev_move) rfl ?_
              refine AL_ev (Ev_move) rfl ?_
              refine AL_ev (Ev_neq rfl rfl) rfl ?_
              refine AL_nil ?_
              refine hK24 _ _ _ ?_
              refine AC_cond rfl (fun hc7 => ?_) (fun hc7 => ?_)
              · skip
                exact absurd hc7 (by simp)
              · skip
                refine AC_skip ?_
                refine hK23 _ _ _ ?_
                refine AC_seq fun K25 hK25 => ?_
                refine AC_region ?_
                refine AL_ev (Ev_move) rfl ?_
                refine AL_fcall0 hT rfl cl9 ((c_toTermS ts (fun u _ => c_toTerm u)).pcall) rfl rfl ?_
                refine AL_fcall0 hT rfl cl10 (hS.pcall rfl) rfl rfl ?_
                refine AL_ev (Ev_assign) rfl ?_
                refine AL_nil ?_
                refine hK25 _ _ _ ?_
                refine AC_seq fun K26 hK26 => ?_
                refine AC_seq fun K27 hK27 => ?_
                refine AC_region ?_
                refine AL_ev (Ev_move) rfl ?_
                refine AL_ev (Ev_move) rfl ?_
                refine AL_fcall0 hT rfl cl11 (c_eqTermS (sortF ts []) (fun u _ => c_eqTerm u)) rfl rfl ?_
                refine AL_ev (Ev_not rfl) rfl ?_
                refine AL_nil ?_
                refine hK27 _ _ _ ?_
                refine AC_cond rfl (fun hc8 => ?_) (fun hc8 => ?_)
                · skip
                  exact absurd hc8 (by simp)
                · skip
                  refine AC_skip ?_
                  refine hK26 _ _ _ ?_
                  refine AC_seq fun K28 hK28 => ?_
                  refine AC_region ?_
                  refine AL_ev (Ev_assign) rfl ?_
                  refine AL_nil ?_
                  refine hK28 _ _ _ ?_
                  refine AC_seq fun K29 hK29 => ?_
                  refine AC_region ?_
                  refine AL_ev (Ev_move) rfl ?_
                  refine AL_ev (Ev_move) rfl ?_
                  refine AL_qcall hT rfl cl13 ((show PCall Try.prog 13 [.sl LT (injs (mkL 1 (sortF ts []))), .c (.int .i64 1)] (· = [.c (.int .i64 (1 + cntL (sortF ts [])))]) from c_heldKids (.mk 0 ⟨#[]⟩ 0 (sortF ts [])) 1 (by omega) (by simp only [T.kids]; omega))) (.cons (.raw (l := .one) (cs := [A9]) hG4 rfl rfl) (.cons (.rd .d) .nil)) rfl ?_
                  refine AL_ev (Ev_assign) rfl ?_
                  refine AL_nil ?_
                  refine hK29 _ _ _ ?_
                  refine AC_seq fun K30 hK30 => ?_
                  refine AC_seq fun K31 hK31 => ?_
                  refine AC_region ?_
                  refine AL_ev (Ev_move) rfl ?_
                  refine AL_ev (Ev_lss rfl rfl) rfl ?_
                  refine AL_nil ?_
                  refine hK31 _ _ _ ?_
                  refine AC_cond rfl (fun hc9 => ?_) (fun hc9 => ?_)
                  · skip
                    have : (1 : Int) + cntL (sortF ts []) < 0 := by simpa using hc9
                    omega
                  · skip
                    refine AC_skip ?_
                    refine hK30 _ _ _ ?_
                    refine AC_seq fun K32 hK32 => ?_
                    refine AC_seq fun K33 hK33 => ?_
                    refine AC_region ?_
                    refine AL_ev (Ev_move) rfl ?_
                    refine AL_ev (Ev_move) rfl ?_
                    refine AL_ev (Ev_neq rfl rfl) rfl ?_
                    refine AL_nil ?_
                    refine hK33 _ _ _ ?_
                    refine AC_cond rfl (fun hc10 => ?_) (fun hc10 => ?_)
                    · skip
                      exact absurd hc10 (by simp)
                    · skip
                      refine AC_skip ?_
                      refine hK32 _ _ _ ?_
                      refine AC_seq fun K34 hK34 => ?_
                      refine AC_region ?_
                      refine AL_ev (Ev_assign) rfl ?_
                      refine AL_nil ?_
                      refine hK34 _ _ _ ?_
                      refine AC_ret ?_
                      exact ret_okX hX4 hdm (.tmp rfl rfl .nil) (.cons .d .nil) rfl

end Go.Proofs.Ytjhdkjacfclipaa
