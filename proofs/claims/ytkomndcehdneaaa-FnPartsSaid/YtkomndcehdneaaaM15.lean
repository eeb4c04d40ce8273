/- FnParts, walked. -/
import Derived.Test.YtkomndcehdneaaaM5
import Derived.Test.YtkomndcehdneaaaM14
namespace Go.Proofs.Ytkomndcehdneaaa
open Go.Aw
set_option maxRecDepth 100000
set_option maxHeartbeats 16000000

theorem mp_of {a b : Prop} (f : a → b) (x : a) : b := f x
theorem len_ok {α : Type} {m : List α} (h : m.length ≤ 1048576) : m.length ≤ 9223372036854775807 := by omega
theorem tot_ok {m : List (List Int)} (h : tot m ≤ 1048576) : ∀ r, r ∈ m → r.length ≤ 9223372036854775807 := fun r hr => by have := tot_mem hr; omega
theorem ite_in {n : Int} (b : Bool) (h : InR n) : InR (if b = true then n else 0) := by
  split
  · exact h
  · exact inr0
theorem jnV_in (x y z : Int) (m : List (List Int)) (k N : Int) : InR (jnV x y z m k N) := by
  unfold jnV rdW
  split
  · exact W_inr _
  · exact inr0
theorem po_in (x y z : Int) (m : List (List Int)) : InR (poK x y z m) ∧ InR (poN x y z m) := by
  have := esBest_lt m
  refine ⟨?_, ?_⟩
  · unfold poK; split
    · unfold InR; omega
    · exact inr0
  · unfold poN; split
    · exact W_inr _
    · exact inr0
/-- how many sums are beyond -/
def byd (m : List (List Int)) (z : Int) (i : Nat) : Int := if esBest m < i ∧ rsN z m > 0 then 1 else 0
theorem byd_step {x y z : Int} {m : List (List Int)} (h : qpB x y z m = true) {i : Nat} (hi : i < 8) : byd m z (i + 1) = (if (esL m).getD i 0 > 2 * z then byd m z i + 1 else byd m z i) := by
  obtain ⟨_, hS, _, _⟩ := part_best h
  have k := hS i hi
  unfold byd
  by_cases hc : (esL m).getD i 0 > 2 * z
  · obtain ⟨e, hN⟩ := k.1 hc
    rw [if_pos hc, if_pos ⟨by omega, hN⟩, if_neg (by omega)]; rfl
  · rw [if_neg hc]
    have hn : ¬ (i = esBest m ∧ rsN z m > 0) := fun e => hc (k.2 e)
    by_cases h2 : esBest m < i ∧ rsN z m > 0
    · rw [if_pos h2, if_pos ⟨by omega, h2.2⟩]
    · rw [if_neg h2, if_neg (fun e => by
        by_cases e2 : esBest m = i
        · exact hn ⟨e2.symm, e.2⟩
        · exact h2 ⟨by omega, e.2⟩)]

theorem FnParts_spec (code : List Int) (hc : OkB code) : FSpec Try.prog 6 [.t (.ints .u8 code)] (ex (.c (.bool true)) []) := by
  refine fspec tyOk mx Try.func6 rfl (by kernel_rfl) rfl ?_
  conv => whnf
  refine ACall.use (rBig_spec code) ?_
  refine ⟨fun h => ?_, fun h => ?_⟩
  · conv => whnf
    exact ⟨rfl, rfl⟩
  clear h
  conv => whnf
  refine ACall.use' (DrawRestOf_spec code hc) ?_
  rintro v hr ⟨rfl, x, y, z, m, hx, hy, hz, hm, rfl⟩
  have rb := RestOf_bd x y z m hx hy hz hm.ok.1 hm.ok.2
  conv => whnf
  refine ACall.use (RestOf_i x y z m hx hy hz hm.ok.1 hm.ok.2) ?_
  conv => whnf
  refine ACall.use (RestOf_s x y z m hx hy hz hm.ok.1 hm.ok.2) ?_
  conv => whnf
  refine ⟨fun _ => ?_, fun h => absurd h (by simp [])⟩
  conv => whnf
  refine ACall.use (rBox_spec _ _ _ _ _ (len_ok rb.1) (tot_ok rb.2)) ?_
  conv => whnf
  refine ⟨fun h => absurd h (by simp []), fun _ => ?_⟩
  conv => whnf
  refine ACall.use (PartOf_i x y z m hx hy hz hm.ok.1 hm.ok.2) ?_
  conv => whnf
  refine ACall.use (PartOf_s x y z m hx hy hz hm.ok.1 hm.ok.2) ?_
  conv => whnf
  refine ⟨fun _ => ?_, fun h => absurd h (by simp [])⟩
  conv => whnf
  refine ⟨fun _ => ?_, fun h => absurd h (by simp [])⟩
  conv => whnf
  refine ⟨fun _ => ?_, fun h => absurd h (by simp [])⟩
  conv => whnf
  cases hq : qpB x y z m with
  | false =>
    have hok : rsOk x y z m = false := by rw [rsOk, hq]; rfl
    refine ⟨fun h => absurd h (by simp [hok]), fun _ => ?_⟩
    (repeat (conv => whnf); (first | refine ⟨fun h => absurd h (by decide), fun _ => ?_⟩ | refine ⟨fun _ => ?_, fun h => absurd h (by decide)⟩)); conv => whnf
    refine ACall.use' (DrawJoinPart_spec code hc) ?_
    rintro v hr ⟨rfl, cx, cy, cz, cm, ck, ct, hcx, hcy, hcz, hcm, hck, hct, rfl⟩
    have jb := JoinPart_bd cx cy cz cm hcx hcy hcz hcm.ok.1 hcm.ok.2 ck hck ct hct
    conv => whnf
    refine ACall.use (JoinPart_i cx cy cz cm hcx hcy hcz hcm.ok.1 hcm.ok.2 ck hck ct hct) ?_
    conv => whnf
    refine ACall.use (JoinPart_s cx cy cz cm hcx hcy hcz hcm.ok.1 hcm.ok.2 ck hck ct hct) ?_
    conv => whnf
    refine ⟨fun _ => ?_, fun h => absurd h (by simp [])⟩
    conv => whnf
    refine ACall.use (rBox_spec _ _ _ _ _ (len_ok jb.1) (tot_ok jb.2)) ?_
    conv => whnf
    refine ⟨fun h => absurd h (by simp []), fun _ => ?_⟩
    conv => whnf
    (repeat (conv => whnf); (first | refine ⟨fun h => absurd h (by decide), fun _ => ?_⟩ | refine ⟨fun _ => ?_, fun h => absurd h (by decide)⟩)); conv => whnf
    exact ⟨rfl, rfl⟩
  | true =>
    have hp : pairB x y z m = true := by rw [qpB, Bool.and_eq_true] at hq; exact hq.1
    cases hok : rsOk x y z m with
    | false =>
      (repeat (conv => whnf); (first | refine ⟨fun h => absurd h (by decide), fun _ => ?_⟩ | refine ⟨fun _ => ?_, fun h => absurd h (by decide)⟩)); conv => whnf
      refine ACall.use' (DrawJoinPart_spec code hc) ?_
      rintro v hr ⟨rfl, cx, cy, cz, cm, ck, ct, hcx, hcy, hcz, hcm, hck, hct, rfl⟩
      have jb := JoinPart_bd cx cy cz cm hcx hcy hcz hcm.ok.1 hcm.ok.2 ck hck ct hct
      conv => whnf
      refine ACall.use (JoinPart_i cx cy cz cm hcx hcy hcz hcm.ok.1 hcm.ok.2 ck hck ct hct) ?_
      conv => whnf
      refine ACall.use (JoinPart_s cx cy cz cm hcx hcy hcz hcm.ok.1 hcm.ok.2 ck hck ct hct) ?_
      conv => whnf
      refine ⟨fun _ => ?_, fun h => absurd h (by simp [])⟩
      conv => whnf
      refine ACall.use (rBox_spec _ _ _ _ _ (len_ok jb.1) (tot_ok jb.2)) ?_
      conv => whnf
      refine ⟨fun h => absurd h (by simp []), fun _ => ?_⟩
      conv => whnf
      (repeat (conv => whnf); (first | refine ⟨fun h => absurd h (by decide), fun _ => ?_⟩ | refine ⟨fun _ => ?_, fun h => absurd h (by decide)⟩)); conv => whnf
      have ep : esRes x y z m = esL m := by rw [esRes, if_pos hp]
      refine ACall.use (EightSums_i x y z m hx hy hz hm.ok.1 hm.ok.2) ?_
      conv => whnf
      refine ACall.use (EightSums_s x y z m hx hy hz hm.ok.1 hm.ok.2) ?_
      conv => whnf
      refine ⟨fun _ => ?_, fun h => absurd h (by simp [hp])⟩
      conv => whnf
      refine ⟨fun _ => ?_, fun h => absurd h (by simp [hp])⟩
      conv => whnf
      refine ACall.use (rInts_spec (esRes x y z m) (esRes x y z m) (by rw [ep, esL_len]; omega)) ?_
      conv => whnf
      refine ⟨fun h => absurd h (by simp []), fun _ => ?_⟩
      conv => whnf
      rw [ep]
      have pf := part_best hq
      have hz := (qpB_spec hq).2.2
      have hbd := pf.2.2.2
      have eK : poK x y z m = (esBest m : Int) := by rw [poK, if_pos hq]
      have eN : poN x y z m = rsN z m := by rw [poN, if_pos hq]; rfl
      have eZ : IntKind.i64.wrap (2 * z) = 2 * z := w64 (by omega) (by omega)
      rw [eK, eN]
      refine aloopI tyOk mx (fun i : Nat => (⟨270, [(2, .c (.bool false)), (3, .ptr 0 0), (4, .ptr 1 0), (5, .c (.bool false)), (8, .c (.int .i64 (esBest m))), (9, .c (.int .i64 (rsN z m))), (21, .own 2), (25, .c (.int .i64 (byd m z i))), (26, .c (.int .i64 (i)))], [(0, .cells 53 [.c (.int .i64 (x)), .c (.int .i64 (y)), .c (.int .i64 (z)), .t (.rows m)]), (1, .cells 53 [.c (.int .i64 (0)), .c (.int .i64 (0)), .c (.int .i64 (0)), .t (.rows (rsR x y z m))]), (2, .ints 3 .i64 (esL m))], 3⟩ : St)) (fun i => i ≤ 8) (fun i => 8 - i) 0 (Nat.zero_le _) (some [(0, .row 0), (1, .row 2), (2, .row 10)]) (by (refine ⟨rfl, rfl, ?_, ?_⟩ <;> ((repeat' (first | exact trivial | exact rfl | refine And.intro ?_ ?_)) <;> (try ((conv => whnf); first | refine vint ?_ | refine vboo ?_ | refine rint ?_ | refine rrow ?_ | skip)) <;> (try first | omega | (simp; done) | ((repeat rw [flts_closed _ (by assumption)]); exact vws_closed _ (by assumption)))))) (fun i hi => ?_)
      refine ⟨fun h2 => ?_, fun h2 => ?_⟩
      · have h2 : i < 8 := by have := ltT h2; rw [esL_len] at this; exact this
        have hst := byd_step hq h2
        have hbl : byd m z i = 0 ∨ byd m z i = 1 := by unfold byd; split <;> omega
        refine ADraw.std tyOk mx ⟨by kernel_rfl, i, rfl, by rw [esL_len]; exact h2, ?_⟩
        conv => whnf
        rw [eZ]
        refine ⟨fun h3 => ?_, fun h3 => ?_⟩
        · have h3 := of_decide_eq_true h3
          rw [if_pos h3] at hst
          conv => whnf
          rw [nat_wrap (by omega)]
          refine ⟨i + 1, none, ?_, by omega, by omega⟩
          (refine ⟨rfl, rfl, ?_, ?_⟩ <;> ((repeat' (first | exact trivial | exact rfl | refine And.intro ?_ ?_)) <;> (try ((conv => whnf); first | refine vint ?_ | refine vboo ?_ | refine rint ?_ | refine rrow ?_ | skip)) <;> (try first | omega | (simp; done) | ((repeat rw [flts_closed _ (by assumption)]); exact vws_closed _ (by assumption)))))
          rw [hst]; exact w64 (by omega) (by omega)
        · have h3 := of_decide_eq_false h3
          rw [if_neg h3] at hst
          conv => whnf
          rw [nat_wrap (by omega)]
          refine ⟨i + 1, none, ?_, by omega, by omega⟩
          (refine ⟨rfl, rfl, ?_, ?_⟩ <;> ((repeat' (first | exact trivial | exact rfl | refine And.intro ?_ ?_)) <;> (try ((conv => whnf); first | refine vint ?_ | refine vboo ?_ | refine rint ?_ | refine rrow ?_ | skip)) <;> (try first | omega | (simp; done) | ((repeat rw [flts_closed _ (by assumption)]); exact vws_closed _ (by assumption)))))
      have hi8 : i = 8 := by have := ltF h2; rw [esL_len] at this; omega
      subst hi8
      have hbb := esBest_lt m
      have hb8 : byd m z 8 = if rsN z m > 0 then 1 else 0 := by unfold byd; by_cases hN : rsN z m > 0
                                                                · rw [if_pos ⟨hbb, hN⟩, if_pos hN]
                                                                · rw [if_neg (fun e => hN e.2), if_neg hN]
      have wN : IntKind.i64.wrap (2 * rsN z m) = 2 * rsN z m := w64 (by omega) (by omega)
      have wT : IntKind.i64.wrap (2 * z + 2 * rsN z m) = 2 * z + 2 * rsN z m := w64 (by omega) (by omega)
      have c1 : decide (byd m z 8 > 1) = false := decide_eq_false (by rw [hb8]; split <;> omega)
      have c2 : ((byd m z 8 == 1) != decide (rsN z m > 0)) = false := by
        rw [hb8]
        by_cases hN : rsN z m > 0
        · rw [if_pos hN, decide_eq_true hN]; rfl
        · rw [if_neg hN, decide_eq_false hN]; rfl
      conv => whnf
      refine ADraw.std tyOk mx ⟨by kernel_rfl, ?_⟩
      conv => whnf
      refine ⟨fun _ => ?_, fun h => absurd h (by simp [c1])⟩
      conv => whnf
      refine ⟨fun _ => ?_, fun h => absurd h (by simp [c2])⟩
      conv => whnf
      refine ⟨fun hN => ?_, fun hN => ?_⟩
      · have hN' := of_decide_eq_true hN
        have e := pf.2.2.1 hN'
        conv => whnf
        refine ⟨esBest m, rfl, by rw [esL_len]; exact hbb, ?_⟩
        conv => whnf
        rw [e, eZ, wN, wT]
        refine ⟨fun h => absurd h (by simp []), fun _ => ?_⟩
        conv => whnf
        (repeat (conv => whnf); (first | refine ⟨fun h => absurd h (by decide), fun _ => ?_⟩ | refine ⟨fun _ => ?_, fun h => absurd h (by decide)⟩)); conv => whnf
        exact ⟨rfl, rfl⟩
      · conv => whnf
        (repeat (conv => whnf); (first | refine ⟨fun h => absurd h (by decide), fun _ => ?_⟩ | refine ⟨fun _ => ?_, fun h => absurd h (by decide)⟩)); conv => whnf
        (repeat (conv => whnf); (first | refine ⟨fun h => absurd h (by decide), fun _ => ?_⟩ | refine ⟨fun _ => ?_, fun h => absurd h (by decide)⟩)); conv => whnf
        exact ⟨rfl, rfl⟩
    | true =>
      (repeat (conv => whnf); (first | refine ⟨fun h => absurd h (by decide), fun _ => ?_⟩ | refine ⟨fun _ => ?_, fun h => absurd h (by decide)⟩)); conv => whnf
      refine ACall.use' (DrawJoinPart_spec code hc) ?_
      rintro v hr ⟨rfl, cx, cy, cz, cm, ck, ct, hcx, hcy, hcz, hcm, hck, hct, rfl⟩
      have jb := JoinPart_bd cx cy cz cm hcx hcy hcz hcm.ok.1 hcm.ok.2 ck hck ct hct
      conv => whnf
      refine ACall.use (JoinPart_i cx cy cz cm hcx hcy hcz hcm.ok.1 hcm.ok.2 ck hck ct hct) ?_
      conv => whnf
      refine ACall.use (JoinPart_s cx cy cz cm hcx hcy hcz hcm.ok.1 hcm.ok.2 ck hck ct hct) ?_
      conv => whnf
      refine ⟨fun _ => ?_, fun h => absurd h (by simp [])⟩
      conv => whnf
      refine ACall.use (rBox_spec _ _ _ _ _ (len_ok jb.1) (tot_ok jb.2)) ?_
      conv => whnf
      refine ⟨fun h => absurd h (by simp []), fun _ => ?_⟩
      conv => whnf
      (repeat (conv => whnf); (first | refine ⟨fun h => absurd h (by decide), fun _ => ?_⟩ | refine ⟨fun _ => ?_, fun h => absurd h (by decide)⟩)); conv => whnf
      have ep : esRes x y z m = esL m := by rw [esRes, if_pos hp]
      refine ACall.use (EightSums_i x y z m hx hy hz hm.ok.1 hm.ok.2) ?_
      conv => whnf
      refine ACall.use (EightSums_s x y z m hx hy hz hm.ok.1 hm.ok.2) ?_
      conv => whnf
      refine ⟨fun _ => ?_, fun h => absurd h (by simp [hp])⟩
      conv => whnf
      refine ⟨fun _ => ?_, fun h => absurd h (by simp [hp])⟩
      conv => whnf
      refine ACall.use (rInts_spec (esRes x y z m) (esRes x y z m) (by rw [ep, esL_len]; omega)) ?_
      conv => whnf
      refine ⟨fun h => absurd h (by simp []), fun _ => ?_⟩
      conv => whnf
      rw [ep]
      have pf := part_best hq
      have hz := (qpB_spec hq).2.2
      have hbd := pf.2.2.2
      have eK : poK x y z m = (esBest m : Int) := by rw [poK, if_pos hq]
      have eN : poN x y z m = rsN z m := by rw [poN, if_pos hq]; rfl
      have eZ : IntKind.i64.wrap (2 * z) = 2 * z := w64 (by omega) (by omega)
      rw [eK, eN]
      refine aloopI tyOk mx (fun i : Nat => (⟨270, [(2, .c (.bool false)), (3, .ptr 0 0), (4, .ptr 1 0), (5, .c (.bool true)), (8, .c (.int .i64 (esBest m))), (9, .c (.int .i64 (rsN z m))), (21, .own 2), (25, .c (.int .i64 (byd m z i))), (26, .c (.int .i64 (i)))], [(0, .cells 53 [.c (.int .i64 (x)), .c (.int .i64 (y)), .c (.int .i64 (z)), .t (.rows m)]), (1, .cells 53 [.c (.int .i64 (2)), .c (.int .i64 (2)), .c (.int .i64 (rsW z (rsN z m))), .t (.rows (rsR x y z m))]), (2, .ints 3 .i64 (esL m))], 3⟩ : St)) (fun i => i ≤ 8) (fun i => 8 - i) 0 (Nat.zero_le _) (some [(0, .row 0), (1, .row 2), (2, .row 10)]) (by (refine ⟨rfl, rfl, ?_, ?_⟩ <;> ((repeat' (first | exact trivial | exact rfl | refine And.intro ?_ ?_)) <;> (try ((conv => whnf); first | refine vint ?_ | refine vboo ?_ | refine rint ?_ | refine rrow ?_ | skip)) <;> (try first | omega | (simp; done) | ((repeat rw [flts_closed _ (by assumption)]); exact vws_closed _ (by assumption)))))) (fun i hi => ?_)
      refine ⟨fun h2 => ?_, fun h2 => ?_⟩
      · have h2 : i < 8 := by have := ltT h2; rw [esL_len] at this; exact this
        have hst := byd_step hq h2
        have hbl : byd m z i = 0 ∨ byd m z i = 1 := by unfold byd; split <;> omega
        refine ADraw.std tyOk mx ⟨by kernel_rfl, i, rfl, by rw [esL_len]; exact h2, ?_⟩
        conv => whnf
        rw [eZ]
        refine ⟨fun h3 => ?_, fun h3 => ?_⟩
        · have h3 := of_decide_eq_true h3
          rw [if_pos h3] at hst
          conv => whnf
          rw [nat_wrap (by omega)]
          refine ⟨i + 1, none, ?_, by omega, by omega⟩
          (refine ⟨rfl, rfl, ?_, ?_⟩ <;> ((repeat' (first | exact trivial | exact rfl | refine And.intro ?_ ?_)) <;> (try ((conv => whnf); first | refine vint ?_ | refine vboo ?_ | refine rint ?_ | refine rrow ?_ | skip)) <;> (try first | omega | (simp; done) | ((repeat rw [flts_closed _ (by assumption)]); exact vws_closed _ (by assumption)))))
          rw [hst]; exact w64 (by omega) (by omega)
        · have h3 := of_decide_eq_false h3
          rw [if_neg h3] at hst
          conv => whnf
          rw [nat_wrap (by omega)]
          refine ⟨i + 1, none, ?_, by omega, by omega⟩
          (refine ⟨rfl, rfl, ?_, ?_⟩ <;> ((repeat' (first | exact trivial | exact rfl | refine And.intro ?_ ?_)) <;> (try ((conv => whnf); first | refine vint ?_ | refine vboo ?_ | refine rint ?_ | refine rrow ?_ | skip)) <;> (try first | omega | (simp; done) | ((repeat rw [flts_closed _ (by assumption)]); exact vws_closed _ (by assumption)))))
      have hi8 : i = 8 := by have := ltF h2; rw [esL_len] at this; omega
      subst hi8
      have hbb := esBest_lt m
      have hb8 : byd m z 8 = if rsN z m > 0 then 1 else 0 := by unfold byd; by_cases hN : rsN z m > 0
                                                                · rw [if_pos ⟨hbb, hN⟩, if_pos hN]
                                                                · rw [if_neg (fun e => hN e.2), if_neg hN]
      have wN : IntKind.i64.wrap (2 * rsN z m) = 2 * rsN z m := w64 (by omega) (by omega)
      have wT : IntKind.i64.wrap (2 * z + 2 * rsN z m) = 2 * z + 2 * rsN z m := w64 (by omega) (by omega)
      have c1 : decide (byd m z 8 > 1) = false := decide_eq_false (by rw [hb8]; split <;> omega)
      have c2 : ((byd m z 8 == 1) != decide (rsN z m > 0)) = false := by
        rw [hb8]
        by_cases hN : rsN z m > 0
        · rw [if_pos hN, decide_eq_true hN]; rfl
        · rw [if_neg hN, decide_eq_false hN]; rfl
      conv => whnf
      apply mp_of
      case f =>
        intro key
        refine ADraw.std tyOk mx ⟨by kernel_rfl, ?_⟩
        conv => whnf
        refine ⟨fun _ => ?_, fun h => absurd h (by simp [c1])⟩
        conv => whnf
        refine ⟨fun _ => ?_, fun h => absurd h (by simp [c2])⟩
        conv => whnf
        refine ⟨fun hN => ?_, fun hN => ?_⟩
        · have hN' := of_decide_eq_true hN
          have e := pf.2.2.1 hN'
          conv => whnf
          refine ⟨esBest m, rfl, by rw [esL_len]; exact hbb, ?_⟩
          conv => whnf
          rw [e, eZ, wN, wT]
          refine ⟨fun h => absurd h (by simp []), fun _ => ?_⟩
          conv => whnf
          (repeat (conv => whnf); (first | refine ⟨fun h => absurd h (by decide), fun _ => ?_⟩ | refine ⟨fun _ => ?_, fun h => absurd h (by decide)⟩)); conv => whnf
          refine ACallS.view (R := [(0, .row 0), (1, .row 1)]) (args' := [.ag [.c (.int .i64 (2)), .c (.int .i64 (2)), .c (.int .i64 (rsW z (rsN z m))), .t (.rows (rsR x y z m))]]) (st' := (⟨270, [(2, .c (.bool false)), (3, .ptr 0 0), (4, .ptr 1 0), (8, .c (.int .i64 (esBest m))), (9, .c (.int .i64 (rsN z m)))], [(0, .cells 53 [.c (.int .i64 (x)), .c (.int .i64 (y)), .c (.int .i64 (z)), .t (.rows m)]), (1, .cells 53 [.c (.int .i64 (2)), .c (.int .i64 (2)), .c (.int .i64 (rsW z (rsN z m))), .t (.rows (rsR x y z m))])], 2⟩ : St)) (by refine ⟨rfl, rfl, ?_, ?_⟩ <;> ((repeat' (first | exact trivial | exact rfl | refine And.intro ?_ ?_)) <;> (try ((conv => whnf); first | refine vint ?_ | refine vboo ?_ | refine rint ?_ | refine rrow ?_ | skip)) <;> (try first | omega | (simp; done) | ((repeat rw [flts_closed _ (by assumption)]); exact vws_closed _ (by assumption))))) ⟨⟨rfl, rfl, rfl, rfl, trivial⟩, trivial⟩ ?_
          exact key
        · conv => whnf
          (repeat (conv => whnf); (first | refine ⟨fun h => absurd h (by decide), fun _ => ?_⟩ | refine ⟨fun _ => ?_, fun h => absurd h (by decide)⟩)); conv => whnf
          (repeat (conv => whnf); (first | refine ⟨fun h => absurd h (by decide), fun _ => ?_⟩ | refine ⟨fun _ => ?_, fun h => absurd h (by decide)⟩)); conv => whnf
          refine ACallS.view (R := [(0, .row 0), (1, .row 1)]) (args' := [.ag [.c (.int .i64 (2)), .c (.int .i64 (2)), .c (.int .i64 (rsW z (rsN z m))), .t (.rows (rsR x y z m))]]) (st' := (⟨270, [(2, .c (.bool false)), (3, .ptr 0 0), (4, .ptr 1 0), (8, .c (.int .i64 (esBest m))), (9, .c (.int .i64 (rsN z m)))], [(0, .cells 53 [.c (.int .i64 (x)), .c (.int .i64 (y)), .c (.int .i64 (z)), .t (.rows m)]), (1, .cells 53 [.c (.int .i64 (2)), .c (.int .i64 (2)), .c (.int .i64 (rsW z (rsN z m))), .t (.rows (rsR x y z m))])], 2⟩ : St)) (by refine ⟨rfl, rfl, ?_, ?_⟩ <;> ((repeat' (first | exact trivial | exact rfl | refine And.intro ?_ ?_)) <;> (try ((conv => whnf); first | refine vint ?_ | refine vboo ?_ | refine rint ?_ | refine rrow ?_ | skip)) <;> (try first | omega | (simp; done) | ((repeat rw [flts_closed _ (by assumption)]); exact vws_closed _ (by assumption))))) ⟨⟨rfl, rfl, rfl, rfl, trivial⟩, trivial⟩ ?_
          exact key
      case x =>
        obtain ⟨_, q1, q2, qW, qp, qq, qs⟩ := rest_facts hok
        have hmr := ((rs_R4 m (esBest m) (rsN z m)).sm (boxRows_len _ 2 2) (by omega)).ok
        have eR : rsR x y z m = rsM m (esBest m) (rsN z m) := by rw [rsR, if_pos hok]
        have eS : esRes 2 2 (rsW z (rsN z m)) (rsM m (esBest m) (rsN z m)) = esL (rsM m (esBest m) (rsN z m)) := by rw [esRes, if_pos qp]
        have eW2 : IntKind.i64.wrap (2 * rsW z (rsN z m)) = 2 * (2 * z - 2 * rsN z m) := by rw [qW]; exact w64 (by omega) (by omega)
        rw [eR]
        refine ACall.use (IsQuiet_i 2 2 (rsW z (rsN z m)) (rsM m (esBest m) (rsN z m)) hmr.2) ?_
        conv => whnf
        refine ACall.use (EightSums_i 2 2 (rsW z (rsN z m)) (rsM m (esBest m) (rsN z m)) inr2 inr2 (W_inr _) hmr.1 hmr.2) ?_
        conv => whnf
        refine ⟨fun _ => ?_, fun h => absurd h (by simp [q2])⟩
        conv => whnf
        refine ⟨fun _ => ?_, fun h => absurd h (by simp [qp])⟩
        conv => whnf
        refine ⟨fun _ => ?_, fun h => absurd h (by simp [q1])⟩
        conv => whnf
        refine ⟨fun h => absurd h (by simp [rsW]), fun _ => ?_⟩
        conv => whnf
        rw [eS]
        refine aloopI tyOk mx (fun i : Nat => (⟨270, [(2, .c (.bool false)), (3, .ptr 0 0), (4, .ptr 1 0), (8, .c (.int .i64 (esBest m))), (9, .c (.int .i64 (rsN z m))), (29, .own 2), (31, .c (.int .i64 (i)))], [(0, .cells 53 [.c (.int .i64 (x)), .c (.int .i64 (y)), .c (.int .i64 (z)), .t (.rows m)]), (1, .cells 53 [.c (.int .i64 (2)), .c (.int .i64 (2)), .c (.int .i64 (rsW z (rsN z m))), .t (.rows (rsM m (esBest m) (rsN z m)))]), (2, .ints 3 .i64 (esL (rsM m (esBest m) (rsN z m))))], 3⟩ : St)) (fun i => i ≤ 8) (fun i => 8 - i) 0 (Nat.zero_le _) none (by (refine ⟨rfl, rfl, ?_, ?_⟩ <;> ((repeat' (first | exact trivial | exact rfl | refine And.intro ?_ ?_)) <;> (try ((conv => whnf); first | refine vint ?_ | refine vboo ?_ | refine rint ?_ | refine rrow ?_ | skip)) <;> (try first | omega | (simp; done) | ((repeat rw [flts_closed _ (by assumption)]); exact vws_closed _ (by assumption)))))) (fun i hi => ?_)
        refine ⟨fun h2 => ?_, fun h2 => ?_⟩
        · have h2 : i < 8 := by have := ltT h2; rw [esL_len] at this; exact this
          have hs := qs i h2
          refine ADraw.std tyOk mx ⟨by kernel_rfl, i, rfl, by rw [esL_len]; exact h2, ?_⟩
          conv => whnf
          rw [eW2]
          refine ⟨fun h3 => absurd (of_decide_eq_true h3) (by omega), fun _ => ?_⟩
          conv => whnf
          rw [nat_wrap (by omega)]
          exact ⟨i + 1, none, (by (refine ⟨rfl, rfl, ?_, ?_⟩ <;> ((repeat' (first | exact trivial | exact rfl | refine And.intro ?_ ?_)) <;> (try ((conv => whnf); first | refine vint ?_ | refine vboo ?_ | refine rint ?_ | refine rrow ?_ | skip)) <;> (try first | omega | (simp; done) | ((repeat rw [flts_closed _ (by assumption)]); exact vws_closed _ (by assumption)))))), by omega, by omega⟩
        have jb2 := JoinPart_bd 2 2 (rsW z (rsN z m)) (rsM m (esBest m) (rsN z m)) inr2 inr2 (W_inr _) hmr.1 hmr.2 (esBest m : Int) (by unfold InR; omega) (rsN z m) (by unfold InR; omega)
        conv => whnf
        refine ACall.use (JoinPart_i 2 2 (rsW z (rsN z m)) (rsM m (esBest m) (rsN z m)) inr2 inr2 (W_inr _) hmr.1 hmr.2 (esBest m : Int) (by unfold InR; omega) (rsN z m) (by unfold InR; omega)) ?_
        conv => whnf
        refine ACall.use (JoinPart_s 2 2 (rsW z (rsN z m)) (rsM m (esBest m) (rsN z m)) inr2 inr2 (W_inr _) hmr.1 hmr.2 (esBest m : Int) (by unfold InR; omega) (rsN z m) (by unfold InR; omega)) ?_
        conv => whnf
        refine ⟨fun _ => ?_, fun h => absurd h (by simp [])⟩
        conv => whnf
        refine ACall.use (rBox_spec _ _ _ _ _ (len_ok jb2.1) (tot_ok jb2.2)) ?_
        conv => whnf
        refine ⟨fun h => absurd h (by simp []), fun _ => ?_⟩
        conv => whnf
        refine ⟨fun h6 => ?_, fun h6 => ?_⟩
        · conv => whnf
          exact ⟨rfl, rfl⟩
        have h6 : jnOk 2 2 (rsW z (rsN z m)) (rsM m (esBest m) (rsN z m)) (esBest m : Int) (rsN z m) = true := by simpa using h6
        obtain ⟨b1, b2, b3, b4⟩ := back_facts hok h6
        have hsz : SzM (jnR 2 2 (rsW z (rsN z m)) (rsM m (esBest m) (rsN z m)) (esBest m : Int) (rsN z m)) := by
          rw [jnR, if_pos h6]; exact box_sz _
        rw [jnV, if_pos h6] at b1 b2
        rw [if_pos h6, if_pos h6]
        conv => whnf
        refine ACall.use (AreAlike_i 2 2 _ _ x y z m hsz hm.ok.2) ?_
        conv => whnf
        refine ⟨fun _ => ?_, fun h => absurd (b1.symm.trans h) (by decide)⟩
        conv => whnf
        refine ⟨?_, rfl⟩
        rw [b2]
end Go.Proofs.Ytkomndcehdneaaa
