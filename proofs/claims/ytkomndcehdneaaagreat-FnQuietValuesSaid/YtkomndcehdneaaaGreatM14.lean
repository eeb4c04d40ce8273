/- FnQuietValues, walked. -/
import Derived.Test.YtkomndcehdneaaaGreatM4
import Derived.Test.YtkomndcehdneaaaGreatM13
namespace Go.Proofs.YtkomndcehdneaaaGreat
open Go.Aw
set_option maxRecDepth 100000
set_option maxHeartbeats 16000000

theorem mp_of {a b : Prop} (f : a → b) (x : a) : b := f x
theorem wHi_bd {f : List (List Int)} {B : Int} (h : ∀ i, i < 24 → -B ≤ exW f i ∧ exW f i ≤ B) : ∀ n, n ≤ 24 → -B ≤ wHi f n ∧ wHi f n ≤ B
  | 0, _ => h 0 (by omega)
  | n + 1, hn => by
    have h1 := wHi_bd h n (by omega)
    have h2 := h n (by omega)
    rw [wHi]; omega
theorem wLo_bd {f : List (List Int)} {B : Int} (h : ∀ i, i < 24 → -B ≤ exW f i ∧ exW f i ≤ B) : ∀ n, n ≤ 24 → -B ≤ wLo f n ∧ wLo f n ≤ B
  | 0, _ => h 0 (by omega)
  | n + 1, hn => by
    have h1 := wLo_bd h n (by omega)
    have h2 := h n (by omega)
    rw [wLo]; omega
theorem fn_ent {f : List (List Int)} (h : fnB f = true) : ∀ i k, -99 ≤ (f.getD i []).getD k 0 ∧ (f.getD i []).getD k 0 ≤ 99 := ent_bd (by omega) (by omega) (fnB_spec h).2.2
theorem range_facts {f : List (List Int)} (h : fnB f = true) {x y z : Int} {m : List (List Int)} (hq : qpB x y z m = true) :
    wrLo f * z ≤ 2 * worthF f m ∧ 2 * worthF f m ≤ wrHi f * z ∧ (-2000000 ≤ worthF f m ∧ worthF f m ≤ 2000000) ∧ (-2000000000 ≤ wrLo f * z ∧ wrLo f * z ≤ 2000000000) ∧ (-2000000000 ≤ wrHi f * z ∧ wrHi f * z ≤ 2000000000) := by
  have hf := fn_ent h
  obtain ⟨_, hl, hb, z1, z2⟩ := quiet_QN hq
  have hE : ∀ i, i < 24 → -2000000 ≤ exW f i ∧ exW f i ≤ 2000000 := fun i hi => (worth16 (exRow_len i) hf (ex_bd2 hi)).2
  have b1 := wLo_bd hE 24 (by omega)
  have b2 := wHi_bd hE 24 (by omega)
  rw [wrLo, wrHi, if_pos h, if_pos h]
  refine ⟨quiet_ge hf (fun i hi => wLo_le f 24 i hi) hq, quiet_le hf (fun i hi => wHi_ge f 24 i hi) hq, (worth16 hl hf hb).2, ?_, ?_⟩
  · have := mulB (A := 2000000) (B := 1000) b1 ⟨by omega, z2⟩; omega
  · have := mulB (A := 2000000) (B := 1000) b2 ⟨by omega, z2⟩; omega
theorem WorthOf_2 (z : Int) (f m : List (List Int)) (hf : fnB f = true) (hg : goodB 2 2 z m = true) (kf : SzM f) (km : SzM m) :
    FSpec Tryz.prog 35 [.t (.rows f), .ag [.c (.int .i64 (2)), .c (.int .i64 (2)), .c (.int .i64 (z)), .t (.rows m)]] (ex (.tu [.c (.int .i64 (worthF f m)), .c (.bool true)]) []) := by
  obtain ⟨f1, f2, _⟩ := fnB_spec hf
  obtain ⟨a, b, ea, eb, _, _, _, _, _, _, g1, g2, g3⟩ := goodB_spec hg
  have ea : a = 2 := by omega
  have eb : b = 2 := by omega
  subst ea eb
  refine fspec tyOk mx Tryz.func35 rfl (by kernel_rfl) rfl ?_
  conv => whnf
  refine ACall.use (IsBox_spec 2 2 z m km) ?_
  rw [hg]
  conv => whnf
  (repeat (conv => whnf); (first | refine ⟨fun h => absurd h (by decide), fun _ => ?_⟩ | refine ⟨fun _ => ?_, fun h => absurd h (by decide)⟩)); conv => whnf
  refine ACall.use (isFunctional_spec f kf) ?_
  rw [hf]
  (repeat (conv => whnf); (first | refine ⟨fun h => absurd h (by decide), fun _ => ?_⟩ | refine ⟨fun _ => ?_, fun h => absurd h (by decide)⟩)); conv => whnf
  refine ACall.use (worth_spec f m (by rw [f1, g1]) (by omega) f2 (fun r hr => (g3 r hr).1)) ?_
  conv => whnf
  exact ⟨rfl, rfl⟩
theorem WorthOf_q (x y z : Int) (f m : List (List Int)) (hf : fnB f = true) (hq : qpB x y z m = true) (kf : SzM f) (km : SzM m) :
    FSpec Tryz.prog 35 [.t (.rows f), .ag [.c (.int .i64 (x)), .c (.int .i64 (y)), .c (.int .i64 (z)), .t (.rows m)]] (ex (.tu [.c (.int .i64 (worthF f m)), .c (.bool true)]) []) := by
  have hg : goodB x y z m = true := by rw [qpB, Bool.and_eq_true, pairB, Bool.and_eq_true] at hq; exact hq.1.1
  obtain ⟨rfl, rfl, _⟩ := qpB_spec hq
  exact WorthOf_2 z f m hf hg kf km
/-- the score of a quiet box -/
theorem gb_facts {x y : Int} {s : List Int} {m : List (List Int)} (h : qgOk x y s m = true) {bx by' bz : Int} {bm : List (List Int)} (hq : qpB bx by' bz bm = true) :
    gbOk x y s m bx by' bz bm = true ∧ 2 * gbV x y s m bx by' bz bm ≤ qvV x y s m * bz ∧ (-2000000 ≤ gbV x y s m bx by' bz bm ∧ gbV x y s m bx by' bz bm ≤ 2000000) ∧ (0 ≤ qvV x y s m * bz ∧ qvV x y s m * bz ≤ 792000) := by
  obtain ⟨f1, f2, f3, f4, f5, f6, f7, f8, f9⟩ := qv_facts h
  obtain ⟨ex, ey, hg, _⟩ := qgOk_spec h
  have hgb : goodB bx by' bz bm = true := by rw [qpB, Bool.and_eq_true, pairB, Bool.and_eq_true] at hq; exact hq.1.1
  obtain ⟨ebx, eby, _⟩ := qpB_spec hq
  obtain ⟨_, hl, hb, z1, z2⟩ := quiet_QN hq
  have hok : gbOk x y s m bx by' bz bm = true := by rw [gbOk, hg, hgb, ex, ey, ebx, eby]; rfl
  rw [gbV, if_pos hok, qvV, if_pos h]
  refine ⟨hok, quiet_le f1 f2 hq, (worth16 hl f1 hb).2, ?_⟩
  have := mulB (x := exW (funG s m) (qbI s m)) (y := bz) (A := 792) (B := 1000) ⟨by omega, by omega⟩ ⟨by omega, z2⟩
  exact ⟨Int.mul_nonneg f8 (by omega), by omega⟩
theorem wor_w {a b c : Int} (h1 : -2000000 ≤ a ∧ a ≤ 2000000) (h2 : -2000000000 ≤ b ∧ b ≤ 2000000000) (h3 : -2000000000 ≤ c ∧ c ≤ 2000000000) : IntKind.i64.wrap (2 * a) = 2 * a ∧ IntKind.i64.wrap b = b ∧ IntKind.i64.wrap c = c := ⟨w64 (by omega) (by omega), w64 (by omega) (by omega), w64 (by omega) (by omega)⟩
theorem qv_in (x y : Int) (s : List Int) (m : List (List Int)) : InR (qvB x y s m) := by
  have h := bIx_le (exW (funG s m)) 23
  unfold qvB
  split
  · unfold qbI InR; omega
  · exact inr0

theorem FnQuietValues_spec (code : List Int) (hc : OkB code) : FSpec Tryz.prog 4 [.t (.ints .u8 code)] (ex (.c (.bool true)) []) := by
  refine fspec tyOk mx Tryz.func4 rfl (by kernel_rfl) rfl ?_
  conv => whnf
  refine ACall.use (rBig_spec code) ?_
  refine ⟨fun h => ?_, fun h => ?_⟩
  · conv => whnf
    exact ⟨rfl, rfl⟩
  clear h
  conv => whnf
  refine ACall.use' (DrawQuietValue_spec code hc) ?_
  rintro v hr ⟨rfl, x, y, s, m, hx, hy, hsm, rfl⟩
  obtain ⟨os, om, ks, km⟩ := hsm.ok
  conv => whnf
  refine ACall.use (QuietValue_i x y s m hx hy os om ks km) ?_
  conv => whnf
  refine ACall.use (QuietValue_s x y s m hx hy os om ks km) ?_
  conv => whnf
  refine ⟨fun _ => ?_, fun h => absurd h (by simp [])⟩
  conv => whnf
  refine ⟨fun h => absurd h (by simp []), fun _ => ?_⟩
  conv => whnf
  refine ACall.use (QuietBest_i x y s m hx hy os om ks km) ?_
  conv => whnf
  refine ACall.use (QuietBest_s x y s m hx hy os om ks km) ?_
  conv => whnf
  refine ⟨fun _ => ?_, fun h => absurd h (by simp [])⟩
  conv => whnf
  refine ⟨fun _ => ?_, fun h => absurd h (by simp [])⟩
  conv => whnf
  refine ⟨fun h => absurd h (by simp []), fun _ => ?_⟩
  conv => whnf
  refine ACall.use' (DrawWorthRange_spec code hc) ?_
  rintro v hr ⟨rfl, f, hf, rfl⟩
  conv => whnf
  refine ACall.use (WorthRange_i f hf.ok.1 hf.ok.2) ?_
  conv => whnf
  refine ACall.use (WorthRange_s f hf.ok.1 hf.ok.2) ?_
  conv => whnf
  refine ⟨fun _ => ?_, fun h => absurd h (by simp [])⟩
  conv => whnf
  refine ⟨fun _ => ?_, fun h => absurd h (by simp [])⟩
  conv => whnf
  refine ⟨fun h => absurd h (by simp []), fun _ => ?_⟩
  conv => whnf
  refine ACall.use' (DrawPartOf_spec code hc) ?_
  rintro v hr ⟨rfl, bx, by', bz, bm, hbx, hby, hbz, hbm, rfl⟩
  conv => whnf
  refine ACall.use (PartOf_i bx by' bz bm hbx hby hbz hbm.ok.1 hbm.ok.2) ?_
  conv => whnf
  refine ACall.use (PartOf_s bx by' bz bm hbx hby hbz hbm.ok.1 hbm.ok.2) ?_
  conv => whnf
  refine ⟨fun h => absurd h (by simp []), fun _ => ?_⟩
  conv => whnf
  apply mp_of
  case f =>
    intro key
    refine ⟨fun h2 => ?_, fun h2 => ?_⟩
    · conv => whnf
      refine ⟨fun hq => ?_, fun hq => ?_⟩
      · obtain ⟨r1, r2, r3, r4, r5⟩ := range_facts h2 hq
        obtain ⟨w1, w2, w3⟩ := wor_w r3 r4 r5
        conv => whnf
        refine ACall.use (WorthOf_q bx by' bz f bm h2 hq hf.ok.2 hbm.ok.2) ?_
        conv => whnf
        refine ⟨fun _ => ?_, fun h => absurd h (by simp [])⟩
        conv => whnf
        rw [w1, w2]
        refine ⟨fun _ => ?_, fun h => absurd (of_decide_eq_true h) (Int.not_lt.2 r1)⟩
        conv => whnf
        rw [w1, w3]
        refine ⟨fun h => absurd (of_decide_eq_true h) (Int.not_lt.2 r2), fun _ => ?_⟩
        conv => whnf
        refine ⟨fun hok => ?_, fun hok => ?_⟩
        · conv => whnf
          exact ⟨rfl, rfl⟩
        · conv => whnf
          refine ACallS.view (R := [(0, .row 0), (1, .row 1)]) (args' := [.c (.int .i64 (qvB x y s m))]) (st' := (⟨231, [(2, .c (.bool false)), (3, .ptr 0 0), (4, .c (.int .i64 (qvV x y s m))), (8, .c (.int .i64 (qvB x y s m))), (19, .ptr 1 0), (22, .c (.bool (qpB bx by' bz bm)))], [(0, .cells 41 [.c (.int .i64 (x)), .c (.int .i64 (y)), .t (.ints .i64 s), .t (.rows m)]), (1, .cells 26 [.c (.int .i64 (bx)), .c (.int .i64 (by')), .c (.int .i64 (bz)), .t (.rows bm)])], 2⟩ : St)) (by refine ⟨rfl, rfl, ?_, ?_⟩ <;> ((repeat' (first | exact trivial | exact rfl | refine And.intro ?_ ?_)) <;> (try ((conv => whnf); first | refine vint ?_ | refine vboo ?_ | refine rint ?_ | refine rrow ?_ | skip)) <;> (try first | omega | (simp; done) | ((repeat rw [flts_closed _ (by assumption)]); exact vws_closed _ (by assumption))))) ⟨rfl, trivial⟩ ?_
          revert hok
          exact key
      · conv => whnf
        refine ⟨fun hok => ?_, fun hok => ?_⟩
        · conv => whnf
          exact ⟨rfl, rfl⟩
        · conv => whnf
          refine ACallS.view (R := [(0, .row 0), (1, .row 1)]) (args' := [.c (.int .i64 (qvB x y s m))]) (st' := (⟨231, [(2, .c (.bool false)), (3, .ptr 0 0), (4, .c (.int .i64 (qvV x y s m))), (8, .c (.int .i64 (qvB x y s m))), (19, .ptr 1 0), (22, .c (.bool (qpB bx by' bz bm)))], [(0, .cells 41 [.c (.int .i64 (x)), .c (.int .i64 (y)), .t (.ints .i64 s), .t (.rows m)]), (1, .cells 26 [.c (.int .i64 (bx)), .c (.int .i64 (by')), .c (.int .i64 (bz)), .t (.rows bm)])], 2⟩ : St)) (by refine ⟨rfl, rfl, ?_, ?_⟩ <;> ((repeat' (first | exact trivial | exact rfl | refine And.intro ?_ ?_)) <;> (try ((conv => whnf); first | refine vint ?_ | refine vboo ?_ | refine rint ?_ | refine rrow ?_ | skip)) <;> (try first | omega | (simp; done) | ((repeat rw [flts_closed _ (by assumption)]); exact vws_closed _ (by assumption))))) ⟨rfl, trivial⟩ ?_
          revert hok
          exact key
    · conv => whnf
      (repeat (conv => whnf); (first | refine ⟨fun h => absurd h (by decide), fun _ => ?_⟩ | refine ⟨fun _ => ?_, fun h => absurd h (by decide)⟩)); conv => whnf
      refine ⟨fun hok => ?_, fun hok => ?_⟩
      · conv => whnf
        exact ⟨rfl, rfl⟩
      · conv => whnf
        refine ACallS.view (R := [(0, .row 0), (1, .row 1)]) (args' := [.c (.int .i64 (qvB x y s m))]) (st' := (⟨231, [(2, .c (.bool false)), (3, .ptr 0 0), (4, .c (.int .i64 (qvV x y s m))), (8, .c (.int .i64 (qvB x y s m))), (19, .ptr 1 0), (22, .c (.bool (qpB bx by' bz bm)))], [(0, .cells 41 [.c (.int .i64 (x)), .c (.int .i64 (y)), .t (.ints .i64 s), .t (.rows m)]), (1, .cells 26 [.c (.int .i64 (bx)), .c (.int .i64 (by')), .c (.int .i64 (bz)), .t (.rows bm)])], 2⟩ : St)) (by refine ⟨rfl, rfl, ?_, ?_⟩ <;> ((repeat' (first | exact trivial | exact rfl | refine And.intro ?_ ?_)) <;> (try ((conv => whnf); first | refine vint ?_ | refine vboo ?_ | refine rint ?_ | refine rrow ?_ | skip)) <;> (try first | omega | (simp; done) | ((repeat rw [flts_closed _ (by assumption)]); exact vws_closed _ (by assumption))))) ⟨rfl, trivial⟩ ?_
        revert hok
        exact key
  case x =>
    intro hok
    have hok : qgOk x y s m = true := by simpa using hok
    obtain ⟨f1, f2, f3, f4, f5, f6, f7, f8, f9⟩ := qv_facts hok
    obtain ⟨ex, ey, hg, _⟩ := qgOk_spec hok
    have hB : qvB x y s m = ((qbI s m : Nat) : Int) := by rw [qvB, if_pos hok]
    have hV : qvV x y s m = exW (funG s m) (qbI s m) := by rw [qvV, if_pos hok]
    have hP : bpVal x y s m = scF s m 2 2 (bestI s m 2 2) := by rw [bpVal, if_pos hg, ex, ey]; rfl
    have hT : (if goodG x y s m then sumF s s.length else 0) = sumF s s.length := if_pos hg
    have hEx : exOk ((qbI s m : Nat) : Int) = true := inR_iff.2 (by omega)
    have hER : exR ((qbI s m : Nat) : Int) = exRow (qbI s m) := by rw [exR, if_pos hEx]; rfl
    have hgo : goodB 2 2 2 (exRow (qbI s m)) = true := exRow_good f3
    have hOk : gbOk x y s m 2 2 2 (exRow (qbI s m)) = true := by rw [gbOk, hg, hgo, ex, ey]; rfl
    have hS : gbV x y s m 2 2 2 (exRow (qbI s m)) = exW (funG s m) (qbI s m) := by rw [gbV, if_pos hOk]; rfl
    rw [hB, hV]
    refine ACall.use (ExtremeBox_i ((qbI s m : Nat) : Int) (by unfold InR; omega)) ?_
    rw [hEx, hER]
    conv => whnf
    refine ACall.use (iBoxScore_spec x y s m 2 2 2 (exRow (qbI s m)) ks km (exRow_sz _)) ?_
    rw [hS, hOk]
    conv => whnf
    refine ACall.use (iBestPlay_spec x y s m ks km) ?_
    rw [hP, hg]
    conv => whnf
    refine ACall.use (TotalWeight_i x y s m ks km) ?_
    rw [hT, hg]
    conv => whnf
    have w1 : IntKind.i64.wrap (2 * scF s m 2 2 (bestI s m 2 2)) = 2 * scF s m 2 2 (bestI s m 2 2) := w64 (by omega) (by omega)
    have w2 : IntKind.i64.wrap (2 * sumF s s.length) = 2 * sumF s s.length := w64 (by omega) (by omega)
    (repeat (conv => whnf); (first | refine ⟨fun h => absurd h (by decide), fun _ => ?_⟩ | refine ⟨fun _ => ?_, fun h => absurd h (by decide)⟩)); conv => whnf
    refine ⟨fun _ => ?_, fun h => absurd h (by simp [])⟩
    conv => whnf
    rw [w1]
    refine ⟨fun _ => ?_, fun h => absurd (of_decide_eq_true h) (by omega)⟩
    conv => whnf
    rw [w2]
    refine ⟨fun h => absurd (of_decide_eq_true h) (by omega), fun _ => ?_⟩
    conv => whnf
    refine ⟨fun hq => ?_, fun hq => ?_⟩
    · obtain ⟨g1, g2, g3, g4⟩ := gb_facts hok hq
      rw [hV] at g2 g4
      have w3 : IntKind.i64.wrap (2 * gbV x y s m bx by' bz bm) = 2 * gbV x y s m bx by' bz bm := w64 (by omega) (by omega)
      have w4 : IntKind.i64.wrap (exW (funG s m) (qbI s m) * bz) = exW (funG s m) (qbI s m) * bz := w64 (by omega) (by omega)
      conv => whnf
      refine ACall.use (iBoxScore_spec x y s m bx by' bz bm ks km hbm.ok.2) ?_
      conv => whnf
      refine ⟨fun _ => ?_, fun h => absurd h (by simp [g1])⟩
      conv => whnf
      rw [w3, w4]
      refine ⟨fun h => absurd (of_decide_eq_true h) (Int.not_lt.2 g2), fun _ => ?_⟩
      conv => whnf
      exact ⟨rfl, rfl⟩
    · conv => whnf
      exact ⟨rfl, rfl⟩
end Go.Proofs.YtkomndcehdneaaaGreat
