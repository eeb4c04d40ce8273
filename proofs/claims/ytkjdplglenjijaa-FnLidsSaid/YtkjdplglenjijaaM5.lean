/- FnLids, walked. -/
import Derived.Test.YtkjdplglenjijaaM3
import Derived.Test.YtkjdplglenjijaaM4
namespace Go.Aw
theorem FSpec.toldN {P : Program} {f : FuncId} {args : List AVal} {x x' : AVal} {h : List (Nat × ARow)} (hs : FSpec P f args (ex x h)) (hv : vw h [] 0 x x') : FSpec P f args (ex x' []) :=
  hs.view (fun y hr e => by obtain ⟨rfl, rfl⟩ := e; exact ⟨[], x', [], rfl, trivial, hv, rfl, rfl⟩)
end Go.Aw
namespace Go.Proofs.Ytkjdplglenjijaa
open Go.Aw
set_option maxRecDepth 100000
set_option maxHeartbeats 16000000

theorem mp_of2 {h a b : Prop} (f : (h → a) → b) (x : h → a) : b := f x
theorem FnLids_spec (code : List Int) (hc : OkB code) : FSpec Try.prog 3 [.t (.ints .u8 code)] (ex (.c (.bool true)) []) := by
  refine fspec tyOk mx Try.func3 rfl (by kernel_rfl) rfl ?_
  conv => whnf
  refine ACall.use (vBig_spec code) ?_
  refine ⟨fun h => ?_, fun h => ?_⟩
  · conv => whnf
    exact ⟨rfl, rfl⟩
  have hlen : code.length ≤ 65536 := by have := of_decide_eq_false h; omega
  clear h
  conv => whnf
  refine ACall.use' (DrawIsLid_spec code hc) ?_
  rintro v hr ⟨rfl, m, lid, k, hm, ⟨ll, li⟩, hk, rfl⟩
  obtain ⟨okm, szm⟩ := hm.ok
  have okl : OkI lid := ⟨by omega, li⟩
  have szl : SzI lid := by unfold SzI; omega
  obtain ⟨ev6, evi⟩ := evL_sm m k
  have oke : OkI (evL m k) := ⟨by omega, evi⟩
  have sze : SzI (evL m k) := by unfold SzI; omega
  conv => whnf
  refine ACall.use (IsLid_i m okm szm lid okl szl k hk) ?_
  conv => whnf
  refine ACall.use (IsLid_s m okm szm lid okl szl k hk) ?_
  conv => whnf
  refine ACall.use ((EvenLid_i m okm szm k hk).toldN (x' := .tu [.t (.ints .i64 (evL m k)), .c (.bool (evOk m k))]) ⟨⟨rfl, rfl⟩, rfl, trivial⟩) ?_
  conv => whnf
  refine ACall.use ((EvenLid_s m okm szm k hk).toldN (x' := .tu [.t (.ints .i64 (evL m k)), .c (.bool (evOk m k))]) ⟨⟨rfl, rfl⟩, rfl, trivial⟩) ?_
  conv => whnf
  refine ACall.use' (vCut_spec code hc hlen 1 (by omega)) ?_
  rintro v hr ⟨rfl, c1, hc1, rfl⟩
  conv => whnf
  refine ACall.use' (DrawSpreadWorth_spec c1 hc1) ?_
  rintro v hr ⟨rfl, g, rows, places, hg, hrs, hps, rfl⟩
  obtain ⟨okg, szg⟩ := hg.ok
  obtain ⟨okr, szr⟩ := hrs.ok
  obtain ⟨okp, szp⟩ := hps.ok
  conv => whnf
  refine ACall.use (SpreadWorth_i g okg szg rows okr szr places okp szp) ?_
  conv => whnf
  refine ACall.use (SpreadWorth_s g okg szg rows okr szr places okp szp) ?_
  conv => whnf
  refine ACall.use (IsSpread_i g okg szg rows okr szr places okp szp) ?_
  conv => whnf
  refine ACall.use (IsSpread_s g okg szg rows okr szr places okp szp) ?_
  conv => whnf
  refine ACall.use' (vCut_spec code hc hlen 2 (by omega)) ?_
  rintro v hr ⟨rfl, c2, hc2, rfl⟩
  conv => whnf
  refine ACall.use' (DrawIsNeverNegative_spec c2 hc2) ?_
  rintro v hr ⟨rfl, a, ha, rfl⟩
  obtain ⟨oka, sza⟩ := ha.ok
  conv => whnf
  refine ACall.use (IsNeverNegative_i a oka sza) ?_
  conv => whnf
  refine ACall.use (IsNeverNegative_s a oka sza) ?_
  conv => whnf
  have eqs := spr_eq g rows places
  apply mp_of2 (h := evOk m k = true)
  case f =>
    intro key
    refine ⟨fun _ => ?_, fun h => absurd h (by simp [])⟩
    conv => whnf
    refine ⟨fun _ => ?_, fun h => absurd h (by simp [])⟩
    conv => whnf
    refine ⟨fun _ => ?_, fun h => absurd h (by simp [])⟩
    conv => whnf
    refine ACall.use (vInts_spec (evL m k) (evL m k) (by omega)) ?_
    conv => whnf
    refine ⟨fun _ => ?_, fun h => absurd h (by simp [])⟩
    conv => whnf
    refine ⟨fun _ => ?_, fun h => absurd h (by simp [])⟩
    conv => whnf
    refine ⟨fun _ => ?_, fun h => absurd h (by simp [])⟩
    conv => whnf
    refine ⟨fun _ => ?_, fun h => absurd h (by simp [])⟩
    conv => whnf
    refine ⟨fun _ => ?_, fun h => absurd h (by simp [])⟩
    conv => whnf
    refine ⟨fun _ => ?_, fun h => absurd h (by simp [])⟩
    conv => whnf
    refine ⟨fun _ => ?_, fun h => absurd h (by simp [])⟩
    conv => whnf
    refine ⟨fun _ => ?_, fun h => absurd h (by simp [])⟩
    conv => whnf
    refine ⟨fun hgg => ?_, fun hgg => ?_⟩
    · conv => whnf
      refine ⟨fun h => absurd h (by simp [eqs]), fun _ => ?_⟩
      conv => whnf
      refine ⟨fun htwo => ?_, fun htwo => ?_⟩
      · obtain ⟨n1, n6, nr, nb, ns⟩ := nn_all htwo
        conv => whnf
        refine aloopI tyOk mx (fun i : Nat => (⟨348, [(3, .t (.rows m)), (4, .t (.ints .i64 lid)), (5, .c (.int .i64 (k))), (6, .c (.bool (ldIs m lid k))), (7, .c (.bool (ldOk m k))), (10, .t (.ints .i64 (evL m k))), (11, .c (.bool (evOk m k))), (14, .t (.rows g)), (17, .c (.int .i64 (swSum g rows places))), (18, .c (.int .i64 (swLen g rows places))), (19, .c (.bool (swOk g rows places))), (27, .t (.rows a)), (28, .c (.bool (nnIs a))), (32, .c (.int .i64 (i)))], [], 0⟩ : St)) (fun i => i ≤ a.length) (fun i => a.length - i) 0 (Nat.zero_le _) none (by refine ⟨rfl, rfl, ?_, ?_⟩ <;> ((repeat' (first | exact trivial | exact rfl | refine And.intro ?_ ?_)) <;> (try ((conv => whnf); first | refine vint ?_ | refine vboo ?_ | refine rint ?_ | refine rrow ?_ | skip)) <;> (try first | omega | (simp; done) | ((repeat rw [flts_closed _ (by assumption)]); exact vws_closed _ (by assumption))))) (fun i hi => ?_)
        conv => whnf
        refine ⟨fun h => ?_, fun h => ?_⟩
        · have hi1 : i < a.length := ltT h
          conv => whnf
          refine ⟨fun hn => ?_, fun hn => ?_⟩
          · have hd := nn_diag hn hi1
            have hrl := nr _ (getD_mem (d := []) hi1)
            conv => whnf
            refine ⟨i, rfl, hi1, ?_⟩
            conv => whnf
            refine ⟨i, rfl, by omega, ?_⟩
            conv => whnf
            refine ⟨fun h => absurd (of_decide_eq_true h) (by show ¬ (ent a i i < 0); omega), fun _ => ?_⟩
            conv => whnf
            rw [nat_wrap (by omega)]
            exact ⟨i + 1, none, (by refine ⟨rfl, rfl, ?_, ?_⟩ <;> ((repeat' (first | exact trivial | exact rfl | refine And.intro ?_ ?_)) <;> (try ((conv => whnf); first | refine vint ?_ | refine vboo ?_ | refine rint ?_ | refine rrow ?_ | skip)) <;> (try first | omega | (simp; done) | ((repeat rw [flts_closed _ (by assumption)]); exact vws_closed _ (by assumption))))), by omega, by omega⟩
          · (repeat (conv => whnf); (first | refine ⟨fun h => absurd h (by decide), fun _ => ?_⟩ | refine ⟨fun _ => ?_, fun h => absurd h (by decide)⟩)); conv => whnf
            rw [nat_wrap (by omega)]
            exact ⟨i + 1, none, (by refine ⟨rfl, rfl, ?_, ?_⟩ <;> ((repeat' (first | exact trivial | exact rfl | refine And.intro ?_ ?_)) <;> (try ((conv => whnf); first | refine vint ?_ | refine vboo ?_ | refine rint ?_ | refine rrow ?_ | skip)) <;> (try first | omega | (simp; done) | ((repeat rw [flts_closed _ (by assumption)]); exact vws_closed _ (by assumption))))), by omega, by omega⟩
        · obtain ⟨e4, l4⟩ := shl4 n1 n6
          conv => whnf
          refine aloopI tyOk mx (fun c : Nat => (⟨348, [(3, .t (.rows m)), (4, .t (.ints .i64 lid)), (5, .c (.int .i64 (k))), (6, .c (.bool (ldIs m lid k))), (7, .c (.bool (ldOk m k))), (10, .t (.ints .i64 (evL m k))), (11, .c (.bool (evOk m k))), (14, .t (.rows g)), (17, .c (.int .i64 (swSum g rows places))), (18, .c (.int .i64 (swLen g rows places))), (19, .c (.bool (swOk g rows places))), (27, .t (.rows a)), (28, .c (.bool (nnIs a))), (33, .c (.int .i64 (c)))], [], 0⟩ : St)) (fun c => c ≤ 4 ^ a.length) (fun c => 4 ^ a.length - c) 0 (Nat.zero_le _) none (by refine ⟨rfl, rfl, ?_, ?_⟩ <;> ((repeat' (first | exact trivial | exact rfl | refine And.intro ?_ ?_)) <;> (try ((conv => whnf); first | refine vint ?_ | refine vboo ?_ | refine rint ?_ | refine rrow ?_ | skip)) <;> (try first | omega | (simp; done) | ((repeat rw [flts_closed _ (by assumption)]); exact vws_closed _ (by assumption))))) (fun c hc => ?_)
          conv => whnf
          refine ⟨w2nn n6, ?_⟩
          conv => whnf
          have e4' : shl .i64 1 (IntKind.i64.wrap (2 * (a.length : Int))) = ((4 ^ a.length : Nat) : Int) := e4
          rw [e4']
          refine ⟨fun h => ?_, fun h => ?_⟩
          · have hc1 : c < 4 ^ a.length := ltT h
            conv => whnf
            refine aloopI tyOk mx (fun i : Nat => (⟨348, [(3, .t (.rows m)), (4, .t (.ints .i64 lid)), (5, .c (.int .i64 (k))), (6, .c (.bool (ldIs m lid k))), (7, .c (.bool (ldOk m k))), (10, .t (.ints .i64 (evL m k))), (11, .c (.bool (evOk m k))), (14, .t (.rows g)), (17, .c (.int .i64 (swSum g rows places))), (18, .c (.int .i64 (swLen g rows places))), (19, .c (.bool (swOk g rows places))), (27, .t (.rows a)), (28, .c (.bool (nnIs a))), (33, .c (.int .i64 (c))), (34, .c (.int .i64 (W (sN a c i 0)))), (35, .c (.int .i64 (i)))], [], 0⟩ : St)) (fun i => i ≤ a.length) (fun i => a.length - i) 0 (Nat.zero_le _) none (by refine ⟨rfl, rfl, ?_, ?_⟩ <;> (repeat' (first | exact trivial | exact rfl | refine And.intro ?_ ?_))) (fun i hi => ?_)
            conv => whnf
            refine ⟨fun h => ?_, fun h => ?_⟩
            · have hi1 : i < a.length := ltT h
              have hrl := nr _ (getD_mem (d := []) hi1)
              conv => whnf
              refine aloopI tyOk mx (fun j : Nat => (⟨348, [(3, .t (.rows m)), (4, .t (.ints .i64 lid)), (5, .c (.int .i64 (k))), (6, .c (.bool (ldIs m lid k))), (7, .c (.bool (ldOk m k))), (10, .t (.ints .i64 (evL m k))), (11, .c (.bool (evOk m k))), (14, .t (.rows g)), (17, .c (.int .i64 (swSum g rows places))), (18, .c (.int .i64 (swLen g rows places))), (19, .c (.bool (swOk g rows places))), (27, .t (.rows a)), (28, .c (.bool (nnIs a))), (33, .c (.int .i64 (c))), (34, .c (.int .i64 (W (sN a c i j)))), (35, .c (.int .i64 (i))), (36, .c (.int .i64 (j)))], [], 0⟩ : St)) (fun j => j ≤ a.length) (fun j => a.length - j) 0 (Nat.zero_le _) none (by refine ⟨rfl, rfl, ?_, ?_⟩ <;> ((repeat' (first | exact trivial | exact rfl | refine And.intro ?_ ?_)) <;> (try ((conv => whnf); first | refine vint ?_ | refine vboo ?_ | refine rint ?_ | refine rrow ?_ | skip)) <;> (try first | omega | (simp; done) | ((repeat rw [flts_closed _ (by assumption)]); exact vws_closed _ (by assumption))))) (fun j hj => ?_)
              conv => whnf
              refine ⟨fun h => ?_, fun h => ?_⟩
              · have hj1 : j < a.length := ltT h
                have es := sN_step htwo c i j
                conv => whnf
                refine ADraw.std tyOk mx ⟨by kernel_rfl, ?_⟩
                conv => whnf
                refine ⟨i, rfl, hi1, ?_⟩
                conv => whnf
                refine ⟨j, rfl, by omega, ?_⟩
                conv => whnf
                refine ⟨w2nn (by omega), ?_⟩
                conv => whnf
                refine ⟨w2nn (by omega), ?_⟩
                conv => whnf
                rw [nat_wrap (by omega)]
                refine ⟨j + 1, none, ?_, by omega, by omega⟩
                rw [← es]
                (refine ⟨rfl, rfl, ?_, ?_⟩ <;> ((repeat' (first | exact trivial | exact rfl | refine And.intro ?_ ?_)) <;> (try ((conv => whnf); first | refine vint ?_ | refine vboo ?_ | refine rint ?_ | refine rrow ?_ | skip)) <;> (try first | omega | (simp; done) | ((repeat rw [flts_closed _ (by assumption)]); exact vws_closed _ (by assumption)))))
              · have hj1 : j = a.length := by have := ltF h; omega
                subst hj1
                have es := sN_next a c i
                conv => whnf
                rw [nat_wrap (by omega)]
                refine ⟨i + 1, none, ?_, by omega, by omega⟩
                rw [← es]
                (refine ⟨rfl, rfl, ?_, ?_⟩ <;> ((repeat' (first | exact trivial | exact rfl | refine And.intro ?_ ?_)) <;> (try ((conv => whnf); first | refine vint ?_ | refine vboo ?_ | refine rint ?_ | refine rrow ?_ | skip)) <;> (try first | omega | (simp; done) | ((repeat rw [flts_closed _ (by assumption)]); exact vws_closed _ (by assumption)))))
            · have hi1 : i = a.length := by have := ltF h; omega
              subst hi1
              conv => whnf
              refine ⟨fun hn => ?_, fun hn => ?_⟩
              · have hs := sN_end hn c
                conv => whnf
                refine ⟨fun h => absurd (of_decide_eq_true h) hs, fun _ => ?_⟩
                conv => whnf
                rw [nat_wrap (by omega)]
                exact ⟨c + 1, none, (by refine ⟨rfl, rfl, ?_, ?_⟩ <;> ((repeat' (first | exact trivial | exact rfl | refine And.intro ?_ ?_)) <;> (try ((conv => whnf); first | refine vint ?_ | refine vboo ?_ | refine rint ?_ | refine rrow ?_ | skip)) <;> (try first | omega | (simp; done) | ((repeat rw [flts_closed _ (by assumption)]); exact vws_closed _ (by assumption))))), by omega, by omega⟩
              · (repeat (conv => whnf); (first | refine ⟨fun h => absurd h (by decide), fun _ => ?_⟩ | refine ⟨fun _ => ?_, fun h => absurd h (by decide)⟩)); conv => whnf
                rw [nat_wrap (by omega)]
                exact ⟨c + 1, none, (by refine ⟨rfl, rfl, ?_, ?_⟩ <;> ((repeat' (first | exact trivial | exact rfl | refine And.intro ?_ ?_)) <;> (try ((conv => whnf); first | refine vint ?_ | refine vboo ?_ | refine rint ?_ | refine rrow ?_ | skip)) <;> (try first | omega | (simp; done) | ((repeat rw [flts_closed _ (by assumption)]); exact vws_closed _ (by assumption))))), by omega, by omega⟩
          · have hc1 : c = 4 ^ a.length := by have := ltF h; omega
            conv => whnf
            refine ⟨fun hsw => ?_, fun hsw => ?_⟩
            · conv => whnf
              refine aloopI tyOk mx (fun t : Nat => (⟨348, [(3, .t (.rows m)), (4, .t (.ints .i64 lid)), (5, .c (.int .i64 (k))), (6, .c (.bool (ldIs m lid k))), (7, .c (.bool (ldOk m k))), (10, .t (.ints .i64 (evL m k))), (11, .c (.bool (evOk m k))), (14, .t (.rows g)), (17, .c (.int .i64 (swSum g rows places))), (18, .c (.int .i64 (swLen g rows places))), (19, .c (.bool (swOk g rows places))), (37, .c (.int .i64 ((t + 1 : Nat))))], [], 0⟩ : St)) (fun t => t ≤ 3) (fun t => 3 - t) 0 (by omega) none (by refine ⟨rfl, rfl, ?_, ?_⟩ <;> ((repeat' (first | exact trivial | exact rfl | refine And.intro ?_ ?_)) <;> (try ((conv => whnf); first | refine vint ?_ | refine vboo ?_ | refine rint ?_ | refine rrow ?_ | skip)) <;> (try first | omega | (simp; done) | ((repeat rw [flts_closed _ (by assumption)]); exact vws_closed _ (by assumption))))) (fun t ht => ?_)
              conv => whnf
              refine ⟨fun h => ?_, fun h => ?_⟩
              · have ht3 : t < 3 := by have := of_decide_eq_true h; omega
                have hkt : InR ((t + 1 : Nat) : Int) := by unfold InR; omega
                have ht5 : inR ((t + 1 : Nat) : Int) 1 5 = true := by simp only [inR, decide_eq_true_eq]; omega
                conv => whnf
                refine ACall.use ((EvenLid_i g okg szg ((t + 1 : Nat) : Int) hkt).toldN (x' := .tu [.t (.ints .i64 (evL g ((t + 1 : Nat) : Int))), .c (.bool (evOk g ((t + 1 : Nat) : Int)))]) ⟨⟨rfl, rfl⟩, rfl, trivial⟩) ?_
                conv => whnf
                refine ⟨fun he => ?_, fun he => ?_⟩
                · have hev := even_of he
                  obtain ⟨_, d, _, _, hlb, _⟩ := hev
                  have hsp := lid_spread ht5 hsw hlb
                  have hl6 := (evL_sm g ((t + 1 : Nat) : Int)).1
                  conv => whnf
                  refine ACall.use (vAdd_spec (evL g ((t + 1 : Nat) : Int)) (by omega)) ?_
                  conv => whnf
                  refine ⟨fun h => absurd (of_decide_eq_true h) (by show ¬ (W (W (2 * ((t + 1 : Nat) : Int)) * swSum g rows places) > W (swLen g rows places * addV (evL g ((t + 1 : Nat) : Int)))); omega), fun _ => ?_⟩
                  conv => whnf
                  rw [nat_wrap (by omega)]
                  exact ⟨t + 1, none, (by refine ⟨rfl, rfl, ?_, ?_⟩ <;> ((repeat' (first | exact trivial | exact rfl | refine And.intro ?_ ?_)) <;> (try ((conv => whnf); first | refine vint ?_ | refine vboo ?_ | refine rint ?_ | refine rrow ?_ | skip)) <;> (try first | omega | (simp; done) | ((repeat rw [flts_closed _ (by assumption)]); exact vws_closed _ (by assumption))))), by omega, by omega⟩
                · (repeat (conv => whnf); (first | refine ⟨fun h => absurd h (by decide), fun _ => ?_⟩ | refine ⟨fun _ => ?_, fun h => absurd h (by decide)⟩)); conv => whnf
                  rw [nat_wrap (by omega)]
                  exact ⟨t + 1, none, (by refine ⟨rfl, rfl, ?_, ?_⟩ <;> ((repeat' (first | exact trivial | exact rfl | refine And.intro ?_ ?_)) <;> (try ((conv => whnf); first | refine vint ?_ | refine vboo ?_ | refine rint ?_ | refine rrow ?_ | skip)) <;> (try first | omega | (simp; done) | ((repeat rw [flts_closed _ (by assumption)]); exact vws_closed _ (by assumption))))), by omega, by omega⟩
              · have ht3 : ¬ t < 3 := by have := of_decide_eq_false h; omega
                conv => whnf
                refine ⟨fun hok => ?_, fun hok => ?_⟩
                · conv => whnf
                  refine ⟨fun his => ?_, fun his => ?_⟩
                  · have hgm : goodM m = true := by simp only [ldOk, Bool.and_eq_true] at hok; exact hok.1
                    have hb := lid_bias his
                    conv => whnf
                    refine ACall.use (SignBias_i m okm szm) ?_
                    conv => whnf
                    refine ⟨fun _ => ?_, fun h => absurd h (by simp [hgm])⟩
                    conv => whnf
                    refine ACall.use (vAdd_spec lid szl) ?_
                    conv => whnf
                    refine ⟨fun h => absurd (of_decide_eq_true h) (by show ¬ (W (W (2 * k) * biasOf m) > addV lid); omega), fun _ => ?_⟩
                    conv => whnf
                    refine ⟨fun ho => ?_, fun ho => ?_⟩
                    · conv => whnf
                      exact ⟨rfl, rfl⟩
                    · have hf : evOk m k = true := by simpa using ho
                      conv => whnf
                      refine ACallS.view (R := []) (args' := [.t (.rows m), .t (.ints .i64 (evL m k)), .c (.int .i64 (k))]) (st' := (⟨348, [(3, .t (.rows m)), (5, .c (.int .i64 (k))), (10, .t (.ints .i64 (evL m k)))], [], 0⟩ : St)) (by refine ⟨rfl, rfl, ?_, ?_⟩ <;> ((repeat' (first | exact trivial | exact rfl | refine And.intro ?_ ?_)) <;> (try ((conv => whnf); first | refine vint ?_ | refine vboo ?_ | refine rint ?_ | refine rrow ?_ | skip)) <;> (try first | omega | (simp; done) | ((repeat rw [flts_closed _ (by assumption)]); exact vws_closed _ (by assumption))))) ⟨rfl, rfl, rfl, trivial⟩ ?_
                      exact key hf
                  · conv => whnf
                    refine ⟨fun ho => ?_, fun ho => ?_⟩
                    · conv => whnf
                      exact ⟨rfl, rfl⟩
                    · have hf : evOk m k = true := by simpa using ho
                      conv => whnf
                      refine ACallS.view (R := []) (args' := [.t (.rows m), .t (.ints .i64 (evL m k)), .c (.int .i64 (k))]) (st' := (⟨348, [(3, .t (.rows m)), (5, .c (.int .i64 (k))), (10, .t (.ints .i64 (evL m k)))], [], 0⟩ : St)) (by refine ⟨rfl, rfl, ?_, ?_⟩ <;> ((repeat' (first | exact trivial | exact rfl | refine And.intro ?_ ?_)) <;> (try ((conv => whnf); first | refine vint ?_ | refine vboo ?_ | refine rint ?_ | refine rrow ?_ | skip)) <;> (try first | omega | (simp; done) | ((repeat rw [flts_closed _ (by assumption)]); exact vws_closed _ (by assumption))))) ⟨rfl, rfl, rfl, trivial⟩ ?_
                      exact key hf
                · (repeat (conv => whnf); (first | refine ⟨fun h => absurd h (by decide), fun _ => ?_⟩ | refine ⟨fun _ => ?_, fun h => absurd h (by decide)⟩)); conv => whnf
                  refine ⟨fun ho => ?_, fun ho => ?_⟩
                  · conv => whnf
                    exact ⟨rfl, rfl⟩
                  · have hf : evOk m k = true := by simpa using ho
                    conv => whnf
                    refine ACallS.view (R := []) (args' := [.t (.rows m), .t (.ints .i64 (evL m k)), .c (.int .i64 (k))]) (st' := (⟨348, [(3, .t (.rows m)), (5, .c (.int .i64 (k))), (10, .t (.ints .i64 (evL m k)))], [], 0⟩ : St)) (by refine ⟨rfl, rfl, ?_, ?_⟩ <;> ((repeat' (first | exact trivial | exact rfl | refine And.intro ?_ ?_)) <;> (try ((conv => whnf); first | refine vint ?_ | refine vboo ?_ | refine rint ?_ | refine rrow ?_ | skip)) <;> (try first | omega | (simp; done) | ((repeat rw [flts_closed _ (by assumption)]); exact vws_closed _ (by assumption))))) ⟨rfl, rfl, rfl, trivial⟩ ?_
                    exact key hf
            · conv => whnf
              refine ⟨fun hok => ?_, fun hok => ?_⟩
              · conv => whnf
                refine ⟨fun his => ?_, fun his => ?_⟩
                · have hgm : goodM m = true := by simp only [ldOk, Bool.and_eq_true] at hok; exact hok.1
                  have hb := lid_bias his
                  conv => whnf
                  refine ACall.use (SignBias_i m okm szm) ?_
                  conv => whnf
                  refine ⟨fun _ => ?_, fun h => absurd h (by simp [hgm])⟩
                  conv => whnf
                  refine ACall.use (vAdd_spec lid szl) ?_
                  conv => whnf
                  refine ⟨fun h => absurd (of_decide_eq_true h) (by show ¬ (W (W (2 * k) * biasOf m) > addV lid); omega), fun _ => ?_⟩
                  conv => whnf
                  refine ⟨fun ho => ?_, fun ho => ?_⟩
                  · conv => whnf
                    exact ⟨rfl, rfl⟩
                  · have hf : evOk m k = true := by simpa using ho
                    conv => whnf
                    refine ACallS.view (R := []) (args' := [.t (.rows m), .t (.ints .i64 (evL m k)), .c (.int .i64 (k))]) (st' := (⟨348, [(3, .t (.rows m)), (5, .c (.int .i64 (k))), (10, .t (.ints .i64 (evL m k)))], [], 0⟩ : St)) (by refine ⟨rfl, rfl, ?_, ?_⟩ <;> ((repeat' (first | exact trivial | exact rfl | refine And.intro ?_ ?_)) <;> (try ((conv => whnf); first | refine vint ?_ | refine vboo ?_ | refine rint ?_ | refine rrow ?_ | skip)) <;> (try first | omega | (simp; done) | ((repeat rw [flts_closed _ (by assumption)]); exact vws_closed _ (by assumption))))) ⟨rfl, rfl, rfl, trivial⟩ ?_
                    exact key hf
                · conv => whnf
                  refine ⟨fun ho => ?_, fun ho => ?_⟩
                  · conv => whnf
                    exact ⟨rfl, rfl⟩
                  · have hf : evOk m k = true := by simpa using ho
                    conv => whnf
                    refine ACallS.view (R := []) (args' := [.t (.rows m), .t (.ints .i64 (evL m k)), .c (.int .i64 (k))]) (st' := (⟨348, [(3, .t (.rows m)), (5, .c (.int .i64 (k))), (10, .t (.ints .i64 (evL m k)))], [], 0⟩ : St)) (by refine ⟨rfl, rfl, ?_, ?_⟩ <;> ((repeat' (first | exact trivial | exact rfl | refine And.intro ?_ ?_)) <;> (try ((conv => whnf); first | refine vint ?_ | refine vboo ?_ | refine rint ?_ | refine rrow ?_ | skip)) <;> (try first | omega | (simp; done) | ((repeat rw [flts_closed _ (by assumption)]); exact vws_closed _ (by assumption))))) ⟨rfl, rfl, rfl, trivial⟩ ?_
                    exact key hf
              · (repeat (conv => whnf); (first | refine ⟨fun h => absurd h (by decide), fun _ => ?_⟩ | refine ⟨fun _ => ?_, fun h => absurd h (by decide)⟩)); conv => whnf
                refine ⟨fun ho => ?_, fun ho => ?_⟩
                · conv => whnf
                  exact ⟨rfl, rfl⟩
                · have hf : evOk m k = true := by simpa using ho
                  conv => whnf
                  refine ACallS.view (R := []) (args' := [.t (.rows m), .t (.ints .i64 (evL m k)), .c (.int .i64 (k))]) (st' := (⟨348, [(3, .t (.rows m)), (5, .c (.int .i64 (k))), (10, .t (.ints .i64 (evL m k)))], [], 0⟩ : St)) (by refine ⟨rfl, rfl, ?_, ?_⟩ <;> ((repeat' (first | exact trivial | exact rfl | refine And.intro ?_ ?_)) <;> (try ((conv => whnf); first | refine vint ?_ | refine vboo ?_ | refine rint ?_ | refine rrow ?_ | skip)) <;> (try first | omega | (simp; done) | ((repeat rw [flts_closed _ (by assumption)]); exact vws_closed _ (by assumption))))) ⟨rfl, rfl, rfl, trivial⟩ ?_
                  exact key hf
      · conv => whnf
        refine ⟨fun hsw => ?_, fun hsw => ?_⟩
        · conv => whnf
          refine aloopI tyOk mx (fun t : Nat => (⟨348, [(3, .t (.rows m)), (4, .t (.ints .i64 lid)), (5, .c (.int .i64 (k))), (6, .c (.bool (ldIs m lid k))), (7, .c (.bool (ldOk m k))), (10, .t (.ints .i64 (evL m k))), (11, .c (.bool (evOk m k))), (14, .t (.rows g)), (17, .c (.int .i64 (swSum g rows places))), (18, .c (.int .i64 (swLen g rows places))), (19, .c (.bool (swOk g rows places))), (37, .c (.int .i64 ((t + 1 : Nat))))], [], 0⟩ : St)) (fun t => t ≤ 3) (fun t => 3 - t) 0 (by omega) none (by refine ⟨rfl, rfl, ?_, ?_⟩ <;> ((repeat' (first | exact trivial | exact rfl | refine And.intro ?_ ?_)) <;> (try ((conv => whnf); first | refine vint ?_ | refine vboo ?_ | refine rint ?_ | refine rrow ?_ | skip)) <;> (try first | omega | (simp; done) | ((repeat rw [flts_closed _ (by assumption)]); exact vws_closed _ (by assumption))))) (fun t ht => ?_)
          conv => whnf
          refine ⟨fun h => ?_, fun h => ?_⟩
          · have ht3 : t < 3 := by have := of_decide_eq_true h; omega
            have hkt : InR ((t + 1 : Nat) : Int) := by unfold InR; omega
            have ht5 : inR ((t + 1 : Nat) : Int) 1 5 = true := by simp only [inR, decide_eq_true_eq]; omega
            conv => whnf
            refine ACall.use ((EvenLid_i g okg szg ((t + 1 : Nat) : Int) hkt).toldN (x' := .tu [.t (.ints .i64 (evL g ((t + 1 : Nat) : Int))), .c (.bool (evOk g ((t + 1 : Nat) : Int)))]) ⟨⟨rfl, rfl⟩, rfl, trivial⟩) ?_
            conv => whnf
            refine ⟨fun he => ?_, fun he => ?_⟩
            · have hev := even_of he
              obtain ⟨_, d, _, _, hlb, _⟩ := hev
              have hsp := lid_spread ht5 hsw hlb
              have hl6 := (evL_sm g ((t + 1 : Nat) : Int)).1
              conv => whnf
              refine ACall.use (vAdd_spec (evL g ((t + 1 : Nat) : Int)) (by omega)) ?_
              conv => whnf
              refine ⟨fun h => absurd (of_decide_eq_true h) (by show ¬ (W (W (2 * ((t + 1 : Nat) : Int)) * swSum g rows places) > W (swLen g rows places * addV (evL g ((t + 1 : Nat) : Int)))); omega), fun _ => ?_⟩
              conv => whnf
              rw [nat_wrap (by omega)]
              exact ⟨t + 1, none, (by refine ⟨rfl, rfl, ?_, ?_⟩ <;> ((repeat' (first | exact trivial | exact rfl | refine And.intro ?_ ?_)) <;> (try ((conv => whnf); first | refine vint ?_ | refine vboo ?_ | refine rint ?_ | refine rrow ?_ | skip)) <;> (try first | omega | (simp; done) | ((repeat rw [flts_closed _ (by assumption)]); exact vws_closed _ (by assumption))))), by omega, by omega⟩
            · (repeat (conv => whnf); (first | refine ⟨fun h => absurd h (by decide), fun _ => ?_⟩ | refine ⟨fun _ => ?_, fun h => absurd h (by decide)⟩)); conv => whnf
              rw [nat_wrap (by omega)]
              exact ⟨t + 1, none, (by refine ⟨rfl, rfl, ?_, ?_⟩ <;> ((repeat' (first | exact trivial | exact rfl | refine And.intro ?_ ?_)) <;> (try ((conv => whnf); first | refine vint ?_ | refine vboo ?_ | refine rint ?_ | refine rrow ?_ | skip)) <;> (try first | omega | (simp; done) | ((repeat rw [flts_closed _ (by assumption)]); exact vws_closed _ (by assumption))))), by omega, by omega⟩
          · have ht3 : ¬ t < 3 := by have := of_decide_eq_false h; omega
            conv => whnf
            refine ⟨fun hok => ?_, fun hok => ?_⟩
            · conv => whnf
              refine ⟨fun his => ?_, fun his => ?_⟩
              · have hgm : goodM m = true := by simp only [ldOk, Bool.and_eq_true] at hok; exact hok.1
                have hb := lid_bias his
                conv => whnf
                refine ACall.use (SignBias_i m okm szm) ?_
                conv => whnf
                refine ⟨fun _ => ?_, fun h => absurd h (by simp [hgm])⟩
                conv => whnf
                refine ACall.use (vAdd_spec lid szl) ?_
                conv => whnf
                refine ⟨fun h => absurd (of_decide_eq_true h) (by show ¬ (W (W (2 * k) * biasOf m) > addV lid); omega), fun _ => ?_⟩
                conv => whnf
                refine ⟨fun ho => ?_, fun ho => ?_⟩
                · conv => whnf
                  exact ⟨rfl, rfl⟩
                · have hf : evOk m k = true := by simpa using ho
                  conv => whnf
                  refine ACallS.view (R := []) (args' := [.t (.rows m), .t (.ints .i64 (evL m k)), .c (.int .i64 (k))]) (st' := (⟨348, [(3, .t (.rows m)), (5, .c (.int .i64 (k))), (10, .t (.ints .i64 (evL m k)))], [], 0⟩ : St)) (by refine ⟨rfl, rfl, ?_, ?_⟩ <;> ((repeat' (first | exact trivial | exact rfl | refine And.intro ?_ ?_)) <;> (try ((conv => whnf); first | refine vint ?_ | refine vboo ?_ | refine rint ?_ | refine rrow ?_ | skip)) <;> (try first | omega | (simp; done) | ((repeat rw [flts_closed _ (by assumption)]); exact vws_closed _ (by assumption))))) ⟨rfl, rfl, rfl, trivial⟩ ?_
                  exact key hf
              · conv => whnf
                refine ⟨fun ho => ?_, fun ho => ?_⟩
                · conv => whnf
                  exact ⟨rfl, rfl⟩
                · have hf : evOk m k = true := by simpa using ho
                  conv => whnf
                  refine ACallS.view (R := []) (args' := [.t (.rows m), .t (.ints .i64 (evL m k)), .c (.int .i64 (k))]) (st' := (⟨348, [(3, .t (.rows m)), (5, .c (.int .i64 (k))), (10, .t (.ints .i64 (evL m k)))], [], 0⟩ : St)) (by refine ⟨rfl, rfl, ?_, ?_⟩ <;> ((repeat' (first | exact trivial | exact rfl | refine And.intro ?_ ?_)) <;> (try ((conv => whnf); first | refine vint ?_ | refine vboo ?_ | refine rint ?_ | refine rrow ?_ | skip)) <;> (try first | omega | (simp; done) | ((repeat rw [flts_closed _ (by assumption)]); exact vws_closed _ (by assumption))))) ⟨rfl, rfl, rfl, trivial⟩ ?_
                  exact key hf
            · (repeat (conv => whnf); (first | refine ⟨fun h => absurd h (by decide), fun _ => ?_⟩ | refine ⟨fun _ => ?_, fun h => absurd h (by decide)⟩)); conv => whnf
              refine ⟨fun ho => ?_, fun ho => ?_⟩
              · conv => whnf
                exact ⟨rfl, rfl⟩
              · have hf : evOk m k = true := by simpa using ho
                conv => whnf
                refine ACallS.view (R := []) (args' := [.t (.rows m), .t (.ints .i64 (evL m k)), .c (.int .i64 (k))]) (st' := (⟨348, [(3, .t (.rows m)), (5, .c (.int .i64 (k))), (10, .t (.ints .i64 (evL m k)))], [], 0⟩ : St)) (by refine ⟨rfl, rfl, ?_, ?_⟩ <;> ((repeat' (first | exact trivial | exact rfl | refine And.intro ?_ ?_)) <;> (try ((conv => whnf); first | refine vint ?_ | refine vboo ?_ | refine rint ?_ | refine rrow ?_ | skip)) <;> (try first | omega | (simp; done) | ((repeat rw [flts_closed _ (by assumption)]); exact vws_closed _ (by assumption))))) ⟨rfl, rfl, rfl, trivial⟩ ?_
                exact key hf
        · conv => whnf
          refine ⟨fun hok => ?_, fun hok => ?_⟩
          · conv => whnf
            refine ⟨fun his => ?_, fun his => ?_⟩
            · have hgm : goodM m = true := by simp only [ldOk, Bool.and_eq_true] at hok; exact hok.1
              have hb := lid_bias his
              conv => whnf
              refine ACall.use (SignBias_i m okm szm) ?_
              conv => whnf
              refine ⟨fun _ => ?_, fun h => absurd h (by simp [hgm])⟩
              conv => whnf
              refine ACall.use (vAdd_spec lid szl) ?_
              conv => whnf
              refine ⟨fun h => absurd (of_decide_eq_true h) (by show ¬ (W (W (2 * k) * biasOf m) > addV lid); omega), fun _ => ?_⟩
              conv => whnf
              refine ⟨fun ho => ?_, fun ho => ?_⟩
              · conv => whnf
                exact ⟨rfl, rfl⟩
              · have hf : evOk m k = true := by simpa using ho
                conv => whnf
                refine ACallS.view (R := []) (args' := [.t (.rows m), .t (.ints .i64 (evL m k)), .c (.int .i64 (k))]) (st' := (⟨348, [(3, .t (.rows m)), (5, .c (.int .i64 (k))), (10, .t (.ints .i64 (evL m k)))], [], 0⟩ : St)) (by refine ⟨rfl, rfl, ?_, ?_⟩ <;> ((repeat' (first | exact trivial | exact rfl | refine And.intro ?_ ?_)) <;> (try ((conv => whnf); first | refine vint ?_ | refine vboo ?_ | refine rint ?_ | refine rrow ?_ | skip)) <;> (try first | omega | (simp; done) | ((repeat rw [flts_closed _ (by assumption)]); exact vws_closed _ (by assumption))))) ⟨rfl, rfl, rfl, trivial⟩ ?_
                exact key hf
            · conv => whnf
              refine ⟨fun ho => ?_, fun ho => ?_⟩
              · conv => whnf
                exact ⟨rfl, rfl⟩
              · have hf : evOk m k = true := by simpa using ho
                conv => whnf
                refine ACallS.view (R := []) (args' := [.t (.rows m), .t (.ints .i64 (evL m k)), .c (.int .i64 (k))]) (st' := (⟨348, [(3, .t (.rows m)), (5, .c (.int .i64 (k))), (10, .t (.ints .i64 (evL m k)))], [], 0⟩ : St)) (by refine ⟨rfl, rfl, ?_, ?_⟩ <;> ((repeat' (first | exact trivial | exact rfl | refine And.intro ?_ ?_)) <;> (try ((conv => whnf); first | refine vint ?_ | refine vboo ?_ | refine rint ?_ | refine rrow ?_ | skip)) <;> (try first | omega | (simp; done) | ((repeat rw [flts_closed _ (by assumption)]); exact vws_closed _ (by assumption))))) ⟨rfl, rfl, rfl, trivial⟩ ?_
                exact key hf
          · (repeat (conv => whnf); (first | refine ⟨fun h => absurd h (by decide), fun _ => ?_⟩ | refine ⟨fun _ => ?_, fun h => absurd h (by decide)⟩)); conv => whnf
            refine ⟨fun ho => ?_, fun ho => ?_⟩
            · conv => whnf
              exact ⟨rfl, rfl⟩
            · have hf : evOk m k = true := by simpa using ho
              conv => whnf
              refine ACallS.view (R := []) (args' := [.t (.rows m), .t (.ints .i64 (evL m k)), .c (.int .i64 (k))]) (st' := (⟨348, [(3, .t (.rows m)), (5, .c (.int .i64 (k))), (10, .t (.ints .i64 (evL m k)))], [], 0⟩ : St)) (by refine ⟨rfl, rfl, ?_, ?_⟩ <;> ((repeat' (first | exact trivial | exact rfl | refine And.intro ?_ ?_)) <;> (try ((conv => whnf); first | refine vint ?_ | refine vboo ?_ | refine rint ?_ | refine rrow ?_ | skip)) <;> (try first | omega | (simp; done) | ((repeat rw [flts_closed _ (by assumption)]); exact vws_closed _ (by assumption))))) ⟨rfl, rfl, rfl, trivial⟩ ?_
              exact key hf
    · have hsw : swOk g rows places = false := by rw [swOk, hgg]; rfl
      (repeat (conv => whnf); (first | refine ⟨fun h => absurd h (by decide), fun _ => ?_⟩ | refine ⟨fun _ => ?_, fun h => absurd h (by decide)⟩)); conv => whnf
      refine ⟨fun h => absurd h (by simp [hsw]), fun _ => ?_⟩
      conv => whnf
      refine ⟨fun htwo => ?_, fun htwo => ?_⟩
      · obtain ⟨n1, n6, nr, nb, ns⟩ := nn_all htwo
        conv => whnf
        refine aloopI tyOk mx (fun i : Nat => (⟨348, [(3, .t (.rows m)), (4, .t (.ints .i64 lid)), (5, .c (.int .i64 (k))), (6, .c (.bool (ldIs m lid k))), (7, .c (.bool (ldOk m k))), (10, .t (.ints .i64 (evL m k))), (11, .c (.bool (evOk m k))), (14, .t (.rows g)), (17, .c (.int .i64 (swSum g rows places))), (18, .c (.int .i64 (swLen g rows places))), (19, .c (.bool (swOk g rows places))), (27, .t (.rows a)), (28, .c (.bool (nnIs a))), (32, .c (.int .i64 (i)))], [], 0⟩ : St)) (fun i => i ≤ a.length) (fun i => a.length - i) 0 (Nat.zero_le _) none (by refine ⟨rfl, rfl, ?_, ?_⟩ <;> ((repeat' (first | exact trivial | exact rfl | refine And.intro ?_ ?_)) <;> (try ((conv => whnf); first | refine vint ?_ | refine vboo ?_ | refine rint ?_ | refine rrow ?_ | skip)) <;> (try first | omega | (simp; done) | ((repeat rw [flts_closed _ (by assumption)]); exact vws_closed _ (by assumption))))) (fun i hi => ?_)
        conv => whnf
        refine ⟨fun h => ?_, fun h => ?_⟩
        · have hi1 : i < a.length := ltT h
          conv => whnf
          refine ⟨fun hn => ?_, fun hn => ?_⟩
          · have hd := nn_diag hn hi1
            have hrl := nr _ (getD_mem (d := []) hi1)
            conv => whnf
            refine ⟨i, rfl, hi1, ?_⟩
            conv => whnf
            refine ⟨i, rfl, by omega, ?_⟩
            conv => whnf
            refine ⟨fun h => absurd (of_decide_eq_true h) (by show ¬ (ent a i i < 0); omega), fun _ => ?_⟩
            conv => whnf
            rw [nat_wrap (by omega)]
            exact ⟨i + 1, none, (by refine ⟨rfl, rfl, ?_, ?_⟩ <;> ((repeat' (first | exact trivial | exact rfl | refine And.intro ?_ ?_)) <;> (try ((conv => whnf); first | refine vint ?_ | refine vboo ?_ | refine rint ?_ | refine rrow ?_ | skip)) <;> (try first | omega | (simp; done) | ((repeat rw [flts_closed _ (by assumption)]); exact vws_closed _ (by assumption))))), by omega, by omega⟩
          · (repeat (conv => whnf); (first | refine ⟨fun h => absurd h (by decide), fun _ => ?_⟩ | refine ⟨fun _ => ?_, fun h => absurd h (by decide)⟩)); conv => whnf
            rw [nat_wrap (by omega)]
            exact ⟨i + 1, none, (by refine ⟨rfl, rfl, ?_, ?_⟩ <;> ((repeat' (first | exact trivial | exact rfl | refine And.intro ?_ ?_)) <;> (try ((conv => whnf); first | refine vint ?_ | refine vboo ?_ | refine rint ?_ | refine rrow ?_ | skip)) <;> (try first | omega | (simp; done) | ((repeat rw [flts_closed _ (by assumption)]); exact vws_closed _ (by assumption))))), by omega, by omega⟩
        · obtain ⟨e4, l4⟩ := shl4 n1 n6
          conv => whnf
          refine aloopI tyOk mx (fun c : Nat => (⟨348, [(3, .t (.rows m)), (4, .t (.ints .i64 lid)), (5, .c (.int .i64 (k))), (6, .c (.bool (ldIs m lid k))), (7, .c (.bool (ldOk m k))), (10, .t (.ints .i64 (evL m k))), (11, .c (.bool (evOk m k))), (14, .t (.rows g)), (17, .c (.int .i64 (swSum g rows places))), (18, .c (.int .i64 (swLen g rows places))), (19, .c (.bool (swOk g rows places))), (27, .t (.rows a)), (28, .c (.bool (nnIs a))), (33, .c (.int .i64 (c)))], [], 0⟩ : St)) (fun c => c ≤ 4 ^ a.length) (fun c => 4 ^ a.length - c) 0 (Nat.zero_le _) none (by refine ⟨rfl, rfl, ?_, ?_⟩ <;> ((repeat' (first | exact trivial | exact rfl | refine And.intro ?_ ?_)) <;> (try ((conv => whnf); first | refine vint ?_ | refine vboo ?_ | refine rint ?_ | refine rrow ?_ | skip)) <;> (try first | omega | (simp; done) | ((repeat rw [flts_closed _ (by assumption)]); exact vws_closed _ (by assumption))))) (fun c hc => ?_)
          conv => whnf
          refine ⟨w2nn n6, ?_⟩
          conv => whnf
          have e4' : shl .i64 1 (IntKind.i64.wrap (2 * (a.length : Int))) = ((4 ^ a.length : Nat) : Int) := e4
          rw [e4']
          refine ⟨fun h => ?_, fun h => ?_⟩
          · have hc1 : c < 4 ^ a.length := ltT h
            conv => whnf
            refine aloopI tyOk mx (fun i : Nat => (⟨348, [(3, .t (.rows m)), (4, .t (.ints .i64 lid)), (5, .c (.int .i64 (k))), (6, .c (.bool (ldIs m lid k))), (7, .c (.bool (ldOk m k))), (10, .t (.ints .i64 (evL m k))), (11, .c (.bool (evOk m k))), (14, .t (.rows g)), (17, .c (.int .i64 (swSum g rows places))), (18, .c (.int .i64 (swLen g rows places))), (19, .c (.bool (swOk g rows places))), (27, .t (.rows a)), (28, .c (.bool (nnIs a))), (33, .c (.int .i64 (c))), (34, .c (.int .i64 (W (sN a c i 0)))), (35, .c (.int .i64 (i)))], [], 0⟩ : St)) (fun i => i ≤ a.length) (fun i => a.length - i) 0 (Nat.zero_le _) none (by refine ⟨rfl, rfl, ?_, ?_⟩ <;> (repeat' (first | exact trivial | exact rfl | refine And.intro ?_ ?_))) (fun i hi => ?_)
            conv => whnf
            refine ⟨fun h => ?_, fun h => ?_⟩
            · have hi1 : i < a.length := ltT h
              have hrl := nr _ (getD_mem (d := []) hi1)
              conv => whnf
              refine aloopI tyOk mx (fun j : Nat => (⟨348, [(3, .t (.rows m)), (4, .t (.ints .i64 lid)), (5, .c (.int .i64 (k))), (6, .c (.bool (ldIs m lid k))), (7, .c (.bool (ldOk m k))), (10, .t (.ints .i64 (evL m k))), (11, .c (.bool (evOk m k))), (14, .t (.rows g)), (17, .c (.int .i64 (swSum g rows places))), (18, .c (.int .i64 (swLen g rows places))), (19, .c (.bool (swOk g rows places))), (27, .t (.rows a)), (28, .c (.bool (nnIs a))), (33, .c (.int .i64 (c))), (34, .c (.int .i64 (W (sN a c i j)))), (35, .c (.int .i64 (i))), (36, .c (.int .i64 (j)))], [], 0⟩ : St)) (fun j => j ≤ a.length) (fun j => a.length - j) 0 (Nat.zero_le _) none (by refine ⟨rfl, rfl, ?_, ?_⟩ <;> ((repeat' (first | exact trivial | exact rfl | refine And.intro ?_ ?_)) <;> (try ((conv => whnf); first | refine vint ?_ | refine vboo ?_ | refine rint ?_ | refine rrow ?_ | skip)) <;> (try first | omega | (simp; done) | ((repeat rw [flts_closed _ (by assumption)]); exact vws_closed _ (by assumption))))) (fun j hj => ?_)
              conv => whnf
              refine ⟨fun h => ?_, fun h => ?_⟩
              · have hj1 : j < a.length := ltT h
                have es := sN_step htwo c i j
                conv => whnf
                refine ADraw.std tyOk mx ⟨by kernel_rfl, ?_⟩
                conv => whnf
                refine ⟨i, rfl, hi1, ?_⟩
                conv => whnf
                refine ⟨j, rfl, by omega, ?_⟩
                conv => whnf
                refine ⟨w2nn (by omega), ?_⟩
                conv => whnf
                refine ⟨w2nn (by omega), ?_⟩
                conv => whnf
                rw [nat_wrap (by omega)]
                refine ⟨j + 1, none, ?_, by omega, by omega⟩
                rw [← es]
                (refine ⟨rfl, rfl, ?_, ?_⟩ <;> ((repeat' (first | exact trivial | exact rfl | refine And.intro ?_ ?_)) <;> (try ((conv => whnf); first | refine vint ?_ | refine vboo ?_ | refine rint ?_ | refine rrow ?_ | skip)) <;> (try first | omega | (simp; done) | ((repeat rw [flts_closed _ (by assumption)]); exact vws_closed _ (by assumption)))))
              · have hj1 : j = a.length := by have := ltF h; omega
                subst hj1
                have es := sN_next a c i
                conv => whnf
                rw [nat_wrap (by omega)]
                refine ⟨i + 1, none, ?_, by omega, by omega⟩
                rw [← es]
                (refine ⟨rfl, rfl, ?_, ?_⟩ <;> ((repeat' (first | exact trivial | exact rfl | refine And.intro ?_ ?_)) <;> (try ((conv => whnf); first | refine vint ?_ | refine vboo ?_ | refine rint ?_ | refine rrow ?_ | skip)) <;> (try first | omega | (simp; done) | ((repeat rw [flts_closed _ (by assumption)]); exact vws_closed _ (by assumption)))))
            · have hi1 : i = a.length := by have := ltF h; omega
              subst hi1
              conv => whnf
              refine ⟨fun hn => ?_, fun hn => ?_⟩
              · have hs := sN_end hn c
                conv => whnf
                refine ⟨fun h => absurd (of_decide_eq_true h) hs, fun _ => ?_⟩
                conv => whnf
                rw [nat_wrap (by omega)]
                exact ⟨c + 1, none, (by refine ⟨rfl, rfl, ?_, ?_⟩ <;> ((repeat' (first | exact trivial | exact rfl | refine And.intro ?_ ?_)) <;> (try ((conv => whnf); first | refine vint ?_ | refine vboo ?_ | refine rint ?_ | refine rrow ?_ | skip)) <;> (try first | omega | (simp; done) | ((repeat rw [flts_closed _ (by assumption)]); exact vws_closed _ (by assumption))))), by omega, by omega⟩
              · (repeat (conv => whnf); (first | refine ⟨fun h => absurd h (by decide), fun _ => ?_⟩ | refine ⟨fun _ => ?_, fun h => absurd h (by decide)⟩)); conv => whnf
                rw [nat_wrap (by omega)]
                exact ⟨c + 1, none, (by refine ⟨rfl, rfl, ?_, ?_⟩ <;> ((repeat' (first | exact trivial | exact rfl | refine And.intro ?_ ?_)) <;> (try ((conv => whnf); first | refine vint ?_ | refine vboo ?_ | refine rint ?_ | refine rrow ?_ | skip)) <;> (try first | omega | (simp; done) | ((repeat rw [flts_closed _ (by assumption)]); exact vws_closed _ (by assumption))))), by omega, by omega⟩
          · have hc1 : c = 4 ^ a.length := by have := ltF h; omega
            conv => whnf
            refine ⟨fun hsw => ?_, fun hsw => ?_⟩
            · conv => whnf
              refine aloopI tyOk mx (fun t : Nat => (⟨348, [(3, .t (.rows m)), (4, .t (.ints .i64 lid)), (5, .c (.int .i64 (k))), (6, .c (.bool (ldIs m lid k))), (7, .c (.bool (ldOk m k))), (10, .t (.ints .i64 (evL m k))), (11, .c (.bool (evOk m k))), (14, .t (.rows g)), (17, .c (.int .i64 (swSum g rows places))), (18, .c (.int .i64 (swLen g rows places))), (19, .c (.bool (swOk g rows places))), (37, .c (.int .i64 ((t + 1 : Nat))))], [], 0⟩ : St)) (fun t => t ≤ 3) (fun t => 3 - t) 0 (by omega) none (by refine ⟨rfl, rfl, ?_, ?_⟩ <;> ((repeat' (first | exact trivial | exact rfl | refine And.intro ?_ ?_)) <;> (try ((conv => whnf); first | refine vint ?_ | refine vboo ?_ | refine rint ?_ | refine rrow ?_ | skip)) <;> (try first | omega | (simp; done) | ((repeat rw [flts_closed _ (by assumption)]); exact vws_closed _ (by assumption))))) (fun t ht => ?_)
              conv => whnf
              refine ⟨fun h => ?_, fun h => ?_⟩
              · have ht3 : t < 3 := by have := of_decide_eq_true h; omega
                have hkt : InR ((t + 1 : Nat) : Int) := by unfold InR; omega
                have ht5 : inR ((t + 1 : Nat) : Int) 1 5 = true := by simp only [inR, decide_eq_true_eq]; omega
                conv => whnf
                refine ACall.use ((EvenLid_i g okg szg ((t + 1 : Nat) : Int) hkt).toldN (x' := .tu [.t (.ints .i64 (evL g ((t + 1 : Nat) : Int))), .c (.bool (evOk g ((t + 1 : Nat) : Int)))]) ⟨⟨rfl, rfl⟩, rfl, trivial⟩) ?_
                conv => whnf
                refine ⟨fun he => ?_, fun he => ?_⟩
                · have hev := even_of he
                  obtain ⟨_, d, _, _, hlb, _⟩ := hev
                  have hsp := lid_spread ht5 hsw hlb
                  have hl6 := (evL_sm g ((t + 1 : Nat) : Int)).1
                  conv => whnf
                  refine ACall.use (vAdd_spec (evL g ((t + 1 : Nat) : Int)) (by omega)) ?_
                  conv => whnf
                  refine ⟨fun h => absurd (of_decide_eq_true h) (by show ¬ (W (W (2 * ((t + 1 : Nat) : Int)) * swSum g rows places) > W (swLen g rows places * addV (evL g ((t + 1 : Nat) : Int)))); omega), fun _ => ?_⟩
                  conv => whnf
                  rw [nat_wrap (by omega)]
                  exact ⟨t + 1, none, (by refine ⟨rfl, rfl, ?_, ?_⟩ <;> ((repeat' (first | exact trivial | exact rfl | refine And.intro ?_ ?_)) <;> (try ((conv => whnf); first | refine vint ?_ | refine vboo ?_ | refine rint ?_ | refine rrow ?_ | skip)) <;> (try first | omega | (simp; done) | ((repeat rw [flts_closed _ (by assumption)]); exact vws_closed _ (by assumption))))), by omega, by omega⟩
                · (repeat (conv => whnf); (first | refine ⟨fun h => absurd h (by decide), fun _ => ?_⟩ | refine ⟨fun _ => ?_, fun h => absurd h (by decide)⟩)); conv => whnf
                  rw [nat_wrap (by omega)]
                  exact ⟨t + 1, none, (by refine ⟨rfl, rfl, ?_, ?_⟩ <;> ((repeat' (first | exact trivial | exact rfl | refine And.intro ?_ ?_)) <;> (try ((conv => whnf); first | refine vint ?_ | refine vboo ?_ | refine rint ?_ | refine rrow ?_ | skip)) <;> (try first | omega | (simp; done) | ((repeat rw [flts_closed _ (by assumption)]); exact vws_closed _ (by assumption))))), by omega, by omega⟩
              · have ht3 : ¬ t < 3 := by have := of_decide_eq_false h; omega
                conv => whnf
                refine ⟨fun hok => ?_, fun hok => ?_⟩
                · conv => whnf
                  refine ⟨fun his => ?_, fun his => ?_⟩
                  · have hgm : goodM m = true := by simp only [ldOk, Bool.and_eq_true] at hok; exact hok.1
                    have hb := lid_bias his
                    conv => whnf
                    refine ACall.use (SignBias_i m okm szm) ?_
                    conv => whnf
                    refine ⟨fun _ => ?_, fun h => absurd h (by simp [hgm])⟩
                    conv => whnf
                    refine ACall.use (vAdd_spec lid szl) ?_
                    conv => whnf
                    refine ⟨fun h => absurd (of_decide_eq_true h) (by show ¬ (W (W (2 * k) * biasOf m) > addV lid); omega), fun _ => ?_⟩
                    conv => whnf
                    refine ⟨fun ho => ?_, fun ho => ?_⟩
                    · conv => whnf
                      exact ⟨rfl, rfl⟩
                    · have hf : evOk m k = true := by simpa using ho
                      conv => whnf
                      refine ACallS.view (R := []) (args' := [.t (.rows m), .t (.ints .i64 (evL m k)), .c (.int .i64 (k))]) (st' := (⟨348, [(3, .t (.rows m)), (5, .c (.int .i64 (k))), (10, .t (.ints .i64 (evL m k)))], [], 0⟩ : St)) (by refine ⟨rfl, rfl, ?_, ?_⟩ <;> ((repeat' (first | exact trivial | exact rfl | refine And.intro ?_ ?_)) <;> (try ((conv => whnf); first | refine vint ?_ | refine vboo ?_ | refine rint ?_ | refine rrow ?_ | skip)) <;> (try first | omega | (simp; done) | ((repeat rw [flts_closed _ (by assumption)]); exact vws_closed _ (by assumption))))) ⟨rfl, rfl, rfl, trivial⟩ ?_
                      exact key hf
                  · conv => whnf
                    refine ⟨fun ho => ?_, fun ho => ?_⟩
                    · conv => whnf
                      exact ⟨rfl, rfl⟩
                    · have hf : evOk m k = true := by simpa using ho
                      conv => whnf
                      refine ACallS.view (R := []) (args' := [.t (.rows m), .t (.ints .i64 (evL m k)), .c (.int .i64 (k))]) (st' := (⟨348, [(3, .t (.rows m)), (5, .c (.int .i64 (k))), (10, .t (.ints .i64 (evL m k)))], [], 0⟩ : St)) (by refine ⟨rfl, rfl, ?_, ?_⟩ <;> ((repeat' (first | exact trivial | exact rfl | refine And.intro ?_ ?_)) <;> (try ((conv => whnf); first | refine vint ?_ | refine vboo ?_ | refine rint ?_ | refine rrow ?_ | skip)) <;> (try first | omega | (simp; done) | ((repeat rw [flts_closed _ (by assumption)]); exact vws_closed _ (by assumption))))) ⟨rfl, rfl, rfl, trivial⟩ ?_
                      exact key hf
                · (repeat (conv => whnf); (first | refine ⟨fun h => absurd h (by decide), fun _ => ?_⟩ | refine ⟨fun _ => ?_, fun h => absurd h (by decide)⟩)); conv => whnf
                  refine ⟨fun ho => ?_, fun ho => ?_⟩
                  · conv => whnf
                    exact ⟨rfl, rfl⟩
                  · have hf : evOk m k = true := by simpa using ho
                    conv => whnf
                    refine ACallS.view (R := []) (args' := [.t (.rows m), .t (.ints .i64 (evL m k)), .c (.int .i64 (k))]) (st' := (⟨348, [(3, .t (.rows m)), (5, .c (.int .i64 (k))), (10, .t (.ints .i64 (evL m k)))], [], 0⟩ : St)) (by refine ⟨rfl, rfl, ?_, ?_⟩ <;> ((repeat' (first | exact trivial | exact rfl | refine And.intro ?_ ?_)) <;> (try ((conv => whnf); first | refine vint ?_ | refine vboo ?_ | refine rint ?_ | refine rrow ?_ | skip)) <;> (try first | omega | (simp; done) | ((repeat rw [flts_closed _ (by assumption)]); exact vws_closed _ (by assumption))))) ⟨rfl, rfl, rfl, trivial⟩ ?_
                    exact key hf
            · conv => whnf
              refine ⟨fun hok => ?_, fun hok => ?_⟩
              · conv => whnf
                refine ⟨fun his => ?_, fun his => ?_⟩
                · have hgm : goodM m = true := by simp only [ldOk, Bool.and_eq_true] at hok; exact hok.1
                  have hb := lid_bias his
                  conv => whnf
                  refine ACall.use (SignBias_i m okm szm) ?_
                  conv => whnf
                  refine ⟨fun _ => ?_, fun h => absurd h (by simp [hgm])⟩
                  conv => whnf
                  refine ACall.use (vAdd_spec lid szl) ?_
                  conv => whnf
                  refine ⟨fun h => absurd (of_decide_eq_true h) (by show ¬ (W (W (2 * k) * biasOf m) > addV lid); omega), fun _ => ?_⟩
                  conv => whnf
                  refine ⟨fun ho => ?_, fun ho => ?_⟩
                  · conv => whnf
                    exact ⟨rfl, rfl⟩
                  · have hf : evOk m k = true := by simpa using ho
                    conv => whnf
                    refine ACallS.view (R := []) (args' := [.t (.rows m), .t (.ints .i64 (evL m k)), .c (.int .i64 (k))]) (st' := (⟨348, [(3, .t (.rows m)), (5, .c (.int .i64 (k))), (10, .t (.ints .i64 (evL m k)))], [], 0⟩ : St)) (by refine ⟨rfl, rfl, ?_, ?_⟩ <;> ((repeat' (first | exact trivial | exact rfl | refine And.intro ?_ ?_)) <;> (try ((conv => whnf); first | refine vint ?_ | refine vboo ?_ | refine rint ?_ | refine rrow ?_ | skip)) <;> (try first | omega | (simp; done) | ((repeat rw [flts_closed _ (by assumption)]); exact vws_closed _ (by assumption))))) ⟨rfl, rfl, rfl, trivial⟩ ?_
                    exact key hf
                · conv => whnf
                  refine ⟨fun ho => ?_, fun ho => ?_⟩
                  · conv => whnf
                    exact ⟨rfl, rfl⟩
                  · have hf : evOk m k = true := by simpa using ho
                    conv => whnf
                    refine ACallS.view (R := []) (args' := [.t (.rows m), .t (.ints .i64 (evL m k)), .c (.int .i64 (k))]) (st' := (⟨348, [(3, .t (.rows m)), (5, .c (.int .i64 (k))), (10, .t (.ints .i64 (evL m k)))], [], 0⟩ : St)) (by refine ⟨rfl, rfl, ?_, ?_⟩ <;> ((repeat' (first | exact trivial | exact rfl | refine And.intro ?_ ?_)) <;> (try ((conv => whnf); first | refine vint ?_ | refine vboo ?_ | refine rint ?_ | refine rrow ?_ | skip)) <;> (try first | omega | (simp; done) | ((repeat rw [flts_closed _ (by assumption)]); exact vws_closed _ (by assumption))))) ⟨rfl, rfl, rfl, trivial⟩ ?_
                    exact key hf
              · (repeat (conv => whnf); (first | refine ⟨fun h => absurd h (by decide), fun _ => ?_⟩ | refine ⟨fun _ => ?_, fun h => absurd h (by decide)⟩)); conv => whnf
                refine ⟨fun ho => ?_, fun ho => ?_⟩
                · conv => whnf
                  exact ⟨rfl, rfl⟩
                · have hf : evOk m k = true := by simpa using ho
                  conv => whnf
                  refine ACallS.view (R := []) (args' := [.t (.rows m), .t (.ints .i64 (evL m k)), .c (.int .i64 (k))]) (st' := (⟨348, [(3, .t (.rows m)), (5, .c (.int .i64 (k))), (10, .t (.ints .i64 (evL m k)))], [], 0⟩ : St)) (by refine ⟨rfl, rfl, ?_, ?_⟩ <;> ((repeat' (first | exact trivial | exact rfl | refine And.intro ?_ ?_)) <;> (try ((conv => whnf); first | refine vint ?_ | refine vboo ?_ | refine rint ?_ | refine rrow ?_ | skip)) <;> (try first | omega | (simp; done) | ((repeat rw [flts_closed _ (by assumption)]); exact vws_closed _ (by assumption))))) ⟨rfl, rfl, rfl, trivial⟩ ?_
                  exact key hf
      · conv => whnf
        refine ⟨fun hsw => ?_, fun hsw => ?_⟩
        · conv => whnf
          refine aloopI tyOk mx (fun t : Nat => (⟨348, [(3, .t (.rows m)), (4, .t (.ints .i64 lid)), (5, .c (.int .i64 (k))), (6, .c (.bool (ldIs m lid k))), (7, .c (.bool (ldOk m k))), (10, .t (.ints .i64 (evL m k))), (11, .c (.bool (evOk m k))), (14, .t (.rows g)), (17, .c (.int .i64 (swSum g rows places))), (18, .c (.int .i64 (swLen g rows places))), (19, .c (.bool (swOk g rows places))), (37, .c (.int .i64 ((t + 1 : Nat))))], [], 0⟩ : St)) (fun t => t ≤ 3) (fun t => 3 - t) 0 (by omega) none (by refine ⟨rfl, rfl, ?_, ?_⟩ <;> ((repeat' (first | exact trivial | exact rfl | refine And.intro ?_ ?_)) <;> (try ((conv => whnf); first | refine vint ?_ | refine vboo ?_ | refine rint ?_ | refine rrow ?_ | skip)) <;> (try first | omega | (simp; done) | ((repeat rw [flts_closed _ (by assumption)]); exact vws_closed _ (by assumption))))) (fun t ht => ?_)
          conv => whnf
          refine ⟨fun h => ?_, fun h => ?_⟩
          · have ht3 : t < 3 := by have := of_decide_eq_true h; omega
            have hkt : InR ((t + 1 : Nat) : Int) := by unfold InR; omega
            have ht5 : inR ((t + 1 : Nat) : Int) 1 5 = true := by simp only [inR, decide_eq_true_eq]; omega
            conv => whnf
            refine ACall.use ((EvenLid_i g okg szg ((t + 1 : Nat) : Int) hkt).toldN (x' := .tu [.t (.ints .i64 (evL g ((t + 1 : Nat) : Int))), .c (.bool (evOk g ((t + 1 : Nat) : Int)))]) ⟨⟨rfl, rfl⟩, rfl, trivial⟩) ?_
            conv => whnf
            refine ⟨fun he => ?_, fun he => ?_⟩
            · have hev := even_of he
              obtain ⟨_, d, _, _, hlb, _⟩ := hev
              have hsp := lid_spread ht5 hsw hlb
              have hl6 := (evL_sm g ((t + 1 : Nat) : Int)).1
              conv => whnf
              refine ACall.use (vAdd_spec (evL g ((t + 1 : Nat) : Int)) (by omega)) ?_
              conv => whnf
              refine ⟨fun h => absurd (of_decide_eq_true h) (by show ¬ (W (W (2 * ((t + 1 : Nat) : Int)) * swSum g rows places) > W (swLen g rows places * addV (evL g ((t + 1 : Nat) : Int)))); omega), fun _ => ?_⟩
              conv => whnf
              rw [nat_wrap (by omega)]
              exact ⟨t + 1, none, (by refine ⟨rfl, rfl, ?_, ?_⟩ <;> ((repeat' (first | exact trivial | exact rfl | refine And.intro ?_ ?_)) <;> (try ((conv => whnf); first | refine vint ?_ | refine vboo ?_ | refine rint ?_ | refine rrow ?_ | skip)) <;> (try first | omega | (simp; done) | ((repeat rw [flts_closed _ (by assumption)]); exact vws_closed _ (by assumption))))), by omega, by omega⟩
            · (repeat (conv => whnf); (first | refine ⟨fun h => absurd h (by decide), fun _ => ?_⟩ | refine ⟨fun _ => ?_, fun h => absurd h (by decide)⟩)); conv => whnf
              rw [nat_wrap (by omega)]
              exact ⟨t + 1, none, (by refine ⟨rfl, rfl, ?_, ?_⟩ <;> ((repeat' (first | exact trivial | exact rfl | refine And.intro ?_ ?_)) <;> (try ((conv => whnf); first | refine vint ?_ | refine vboo ?_ | refine rint ?_ | refine rrow ?_ | skip)) <;> (try first | omega | (simp; done) | ((repeat rw [flts_closed _ (by assumption)]); exact vws_closed _ (by assumption))))), by omega, by omega⟩
          · have ht3 : ¬ t < 3 := by have := of_decide_eq_false h; omega
            conv => whnf
            refine ⟨fun hok => ?_, fun hok => ?_⟩
            · conv => whnf
              refine ⟨fun his => ?_, fun his => ?_⟩
              · have hgm : goodM m = true := by simp only [ldOk, Bool.and_eq_true] at hok; exact hok.1
                have hb := lid_bias his
                conv => whnf
                refine ACall.use (SignBias_i m okm szm) ?_
                conv => whnf
                refine ⟨fun _ => ?_, fun h => absurd h (by simp [hgm])⟩
                conv => whnf
                refine ACall.use (vAdd_spec lid szl) ?_
                conv => whnf
                refine ⟨fun h => absurd (of_decide_eq_true h) (by show ¬ (W (W (2 * k) * biasOf m) > addV lid); omega), fun _ => ?_⟩
                conv => whnf
                refine ⟨fun ho => ?_, fun ho => ?_⟩
                · conv => whnf
                  exact ⟨rfl, rfl⟩
                · have hf : evOk m k = true := by simpa using ho
                  conv => whnf
                  refine ACallS.view (R := []) (args' := [.t (.rows m), .t (.ints .i64 (evL m k)), .c (.int .i64 (k))]) (st' := (⟨348, [(3, .t (.rows m)), (5, .c (.int .i64 (k))), (10, .t (.ints .i64 (evL m k)))], [], 0⟩ : St)) (by refine ⟨rfl, rfl, ?_, ?_⟩ <;> ((repeat' (first | exact trivial | exact rfl | refine And.intro ?_ ?_)) <;> (try ((conv => whnf); first | refine vint ?_ | refine vboo ?_ | refine rint ?_ | refine rrow ?_ | skip)) <;> (try first | omega | (simp; done) | ((repeat rw [flts_closed _ (by assumption)]); exact vws_closed _ (by assumption))))) ⟨rfl, rfl, rfl, trivial⟩ ?_
                  exact key hf
              · conv => whnf
                refine ⟨fun ho => ?_, fun ho => ?_⟩
                · conv => whnf
                  exact ⟨rfl, rfl⟩
                · have hf : evOk m k = true := by simpa using ho
                  conv => whnf
                  refine ACallS.view (R := []) (args' := [.t (.rows m), .t (.ints .i64 (evL m k)), .c (.int .i64 (k))]) (st' := (⟨348, [(3, .t (.rows m)), (5, .c (.int .i64 (k))), (10, .t (.ints .i64 (evL m k)))], [], 0⟩ : St)) (by refine ⟨rfl, rfl, ?_, ?_⟩ <;> ((repeat' (first | exact trivial | exact rfl | refine And.intro ?_ ?_)) <;> (try ((conv => whnf); first | refine vint ?_ | refine vboo ?_ | refine rint ?_ | refine rrow ?_ | skip)) <;> (try first | omega | (simp; done) | ((repeat rw [flts_closed _ (by assumption)]); exact vws_closed _ (by assumption))))) ⟨rfl, rfl, rfl, trivial⟩ ?_
                  exact key hf
            · (repeat (conv => whnf); (first | refine ⟨fun h => absurd h (by decide), fun _ => ?_⟩ | refine ⟨fun _ => ?_, fun h => absurd h (by decide)⟩)); conv => whnf
              refine ⟨fun ho => ?_, fun ho => ?_⟩
              · conv => whnf
                exact ⟨rfl, rfl⟩
              · have hf : evOk m k = true := by simpa using ho
                conv => whnf
                refine ACallS.view (R := []) (args' := [.t (.rows m), .t (.ints .i64 (evL m k)), .c (.int .i64 (k))]) (st' := (⟨348, [(3, .t (.rows m)), (5, .c (.int .i64 (k))), (10, .t (.ints .i64 (evL m k)))], [], 0⟩ : St)) (by refine ⟨rfl, rfl, ?_, ?_⟩ <;> ((repeat' (first | exact trivial | exact rfl | refine And.intro ?_ ?_)) <;> (try ((conv => whnf); first | refine vint ?_ | refine vboo ?_ | refine rint ?_ | refine rrow ?_ | skip)) <;> (try first | omega | (simp; done) | ((repeat rw [flts_closed _ (by assumption)]); exact vws_closed _ (by assumption))))) ⟨rfl, rfl, rfl, trivial⟩ ?_
                exact key hf
        · conv => whnf
          refine ⟨fun hok => ?_, fun hok => ?_⟩
          · conv => whnf
            refine ⟨fun his => ?_, fun his => ?_⟩
            · have hgm : goodM m = true := by simp only [ldOk, Bool.and_eq_true] at hok; exact hok.1
              have hb := lid_bias his
              conv => whnf
              refine ACall.use (SignBias_i m okm szm) ?_
              conv => whnf
              refine ⟨fun _ => ?_, fun h => absurd h (by simp [hgm])⟩
              conv => whnf
              refine ACall.use (vAdd_spec lid szl) ?_
              conv => whnf
              refine ⟨fun h => absurd (of_decide_eq_true h) (by show ¬ (W (W (2 * k) * biasOf m) > addV lid); omega), fun _ => ?_⟩
              conv => whnf
              refine ⟨fun ho => ?_, fun ho => ?_⟩
              · conv => whnf
                exact ⟨rfl, rfl⟩
              · have hf : evOk m k = true := by simpa using ho
                conv => whnf
                refine ACallS.view (R := []) (args' := [.t (.rows m), .t (.ints .i64 (evL m k)), .c (.int .i64 (k))]) (st' := (⟨348, [(3, .t (.rows m)), (5, .c (.int .i64 (k))), (10, .t (.ints .i64 (evL m k)))], [], 0⟩ : St)) (by refine ⟨rfl, rfl, ?_, ?_⟩ <;> ((repeat' (first | exact trivial | exact rfl | refine And.intro ?_ ?_)) <;> (try ((conv => whnf); first | refine vint ?_ | refine vboo ?_ | refine rint ?_ | refine rrow ?_ | skip)) <;> (try first | omega | (simp; done) | ((repeat rw [flts_closed _ (by assumption)]); exact vws_closed _ (by assumption))))) ⟨rfl, rfl, rfl, trivial⟩ ?_
                exact key hf
            · conv => whnf
              refine ⟨fun ho => ?_, fun ho => ?_⟩
              · conv => whnf
                exact ⟨rfl, rfl⟩
              · have hf : evOk m k = true := by simpa using ho
                conv => whnf
                refine ACallS.view (R := []) (args' := [.t (.rows m), .t (.ints .i64 (evL m k)), .c (.int .i64 (k))]) (st' := (⟨348, [(3, .t (.rows m)), (5, .c (.int .i64 (k))), (10, .t (.ints .i64 (evL m k)))], [], 0⟩ : St)) (by refine ⟨rfl, rfl, ?_, ?_⟩ <;> ((repeat' (first | exact trivial | exact rfl | refine And.intro ?_ ?_)) <;> (try ((conv => whnf); first | refine vint ?_ | refine vboo ?_ | refine rint ?_ | refine rrow ?_ | skip)) <;> (try first | omega | (simp; done) | ((repeat rw [flts_closed _ (by assumption)]); exact vws_closed _ (by assumption))))) ⟨rfl, rfl, rfl, trivial⟩ ?_
                exact key hf
          · (repeat (conv => whnf); (first | refine ⟨fun h => absurd h (by decide), fun _ => ?_⟩ | refine ⟨fun _ => ?_, fun h => absurd h (by decide)⟩)); conv => whnf
            refine ⟨fun ho => ?_, fun ho => ?_⟩
            · conv => whnf
              exact ⟨rfl, rfl⟩
            · have hf : evOk m k = true := by simpa using ho
              conv => whnf
              refine ACallS.view (R := []) (args' := [.t (.rows m), .t (.ints .i64 (evL m k)), .c (.int .i64 (k))]) (st' := (⟨348, [(3, .t (.rows m)), (5, .c (.int .i64 (k))), (10, .t (.ints .i64 (evL m k)))], [], 0⟩ : St)) (by refine ⟨rfl, rfl, ?_, ?_⟩ <;> ((repeat' (first | exact trivial | exact rfl | refine And.intro ?_ ?_)) <;> (try ((conv => whnf); first | refine vint ?_ | refine vboo ?_ | refine rint ?_ | refine rrow ?_ | skip)) <;> (try first | omega | (simp; done) | ((repeat rw [flts_closed _ (by assumption)]); exact vws_closed _ (by assumption))))) ⟨rfl, rfl, rfl, trivial⟩ ?_
              exact key hf
  case x =>
    intro hf
    obtain ⟨hok, d, d100, he, hlb, hless⟩ := even_of hf
    have hgm : goodM m = true := by simp only [ldOk, Bool.and_eq_true] at hok; exact hok.1
    obtain ⟨g1, g2, g3, g4, g5⟩ := goodM_spec hgm
    have hlen : (evL m k).length = m.length + (m.getD 0 []).length := by rw [he, List.length_replicate]
    have his : ldIs m (evL m k) k = true := by rw [ldIs, hok, hlb]; rfl
    have h0 : (evL m k).getD 0 0 = (d : Int) := by rw [he]; exact rep_getD (by omega)
    refine ACall.use (IsLid_i m okm szm (evL m k) oke sze k hk) ?_
    conv => whnf
    refine ⟨fun _ => ?_, fun h => absurd h (by simp [hok])⟩
    conv => whnf
    refine ⟨fun h => absurd h (by simp [his]), fun _ => ?_⟩
    conv => whnf
    refine ⟨0, rfl, by omega, ?_⟩
    conv => whnf
    rw [h0]
    refine ⟨fun h => ?_, fun h => ?_⟩
    · conv => whnf
      exact ⟨rfl, rfl⟩
    · have hd : 1 ≤ d := by have : ¬ (d : Int) = 0 := by simpa using h
                            omega
      have ed : IntKind.i64.wrap ((d : Int) - 1) = ((d - 1 : Nat) : Int) := by rw [w64 (by omega) (by omega)]; omega
      conv => whnf
      refine aloopI tyOk mx (fun i : Nat => (⟨348, [(3, .t (.rows m)), (5, .c (.int .i64 (k))), (10, .t (.ints .i64 (evL m k))), (44, .own 0), (45, .c (.int .i64 (i)))], [(0, .ints 3 .i64 (List.replicate i ((d - 1 : Nat) : Int)))], 1⟩ : St)) (fun i => i ≤ (evL m k).length) (fun i => (evL m k).length - i) 0 (Nat.zero_le _) none (by refine ⟨rfl, rfl, ?_, ?_⟩ <;> ((repeat' (first | exact trivial | exact rfl | refine And.intro ?_ ?_)) <;> (try ((conv => whnf); first | refine vint ?_ | refine vboo ?_ | refine rint ?_ | refine rrow ?_ | skip)) <;> (try first | omega | (simp; done) | ((repeat rw [flts_closed _ (by assumption)]); exact vws_closed _ (by assumption))))) (fun i hi => ?_)
      conv => whnf
      refine ⟨fun h => ?_, fun h => ?_⟩
      · have hi1 : i < (evL m k).length := ltT h
        conv => whnf
        refine ⟨0, rfl, by omega, ?_⟩
        conv => whnf
        rw [h0, ed]
        refine ⟨by simp [room]; omega, ?_⟩
        conv => whnf
        rw [nat_wrap (by omega)]
        refine ⟨i + 1, none, ?_, by omega, by omega⟩
        rw [List.replicate_succ' (n := i)]
        (refine ⟨rfl, rfl, ?_, ?_⟩ <;> ((repeat' (first | exact trivial | exact rfl | refine And.intro ?_ ?_)) <;> (try ((conv => whnf); first | refine vint ?_ | refine vboo ?_ | refine rint ?_ | refine rrow ?_ | skip)) <;> (try first | omega | (simp; done) | ((repeat rw [flts_closed _ (by assumption)]); exact vws_closed _ (by assumption)))))
      · have hi1 : i = (evL m k).length := by have := ltF h; omega
        have hb := hless (d - 1) (by omega)
        have hno : ldIs m (List.replicate i ((d - 1 : Nat) : Int)) k = false := by rw [hi1, hlen, ldIs, hb, Bool.and_false]
        have okz : OkI (List.replicate i ((d - 1 : Nat) : Int)) := ⟨by rw [List.length_replicate]; omega, fun x hx => by rw [List.eq_of_mem_replicate hx]; unfold InR; omega⟩
        conv => whnf
        refine ACall.use (IsLid_i m okm szm (List.replicate i ((d - 1 : Nat) : Int)) okz (by unfold SzI; rw [List.length_replicate]; omega) k hk) ?_
        conv => whnf
        refine ⟨fun _ => ?_, fun h => absurd h (by simp [hok])⟩
        conv => whnf
        exact ⟨by rw [hno]; rfl, rfl⟩
end Go.Proofs.Ytkjdplglenjijaa
