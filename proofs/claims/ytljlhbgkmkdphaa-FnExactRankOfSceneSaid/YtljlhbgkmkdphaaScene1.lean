/- Which scenes are valid: reference and program. -/
import Derived.Test.YtljlhbgkmkdphaaBits
import Derived.Test.YtljlhbgkmkdphaaStScene
namespace Go.Proofs.Ytljlhbgkmkdphaa
open Go.Aw
set_option maxRecDepth 100000
set_option maxHeartbeats 4000000

def risAt (l : List Int) (lo hi : Int) (i : Nat) : Bool := inR (l.getD i 0) lo hi && (decide (i = 0) || decide (l.getD (i - 1) 0 < l.getD i 0))
def rising (l : List Int) (lo hi : Int) : Bool := (List.range l.length).all (risAt l lo hi)
def isCtx (e : Int) (l : List Int) : Bool := decide (0 < l.length) && rising l 0 (W (e - 1))
def goodS (e : Int) (m : List (List Int)) (s : List Int) : Bool := inR e 0 12 && decide (m.length ≤ 10) && decide (s.length = m.length) && rowIn s 0 1 && m.all (isCtx e)

theorem l1Rising_spec (l : List Int) (lo hi : Int) (hl : l.length ≤ 9223372036854775806) :
    FSpec Try.prog 65 [.t (.ints .i64 l), .c (.int .i64 lo), .c (.int .i64 hi)] (ex (.c (.bool (rising l lo hi))) []) := by
  refine fspec tyOk mx Try.func65 rfl (by kernel_rfl) rfl ?_
  conv => whnf
  refine aloopI tyOk mx (fun k : Nat => (⟨38, [(0, .t (.ints .i64 l)), (1, .c (.int .i64 lo)), (2, .c (.int .i64 hi)), (7, .c (.int .i64 (k)))], [], 0⟩ : St)) (fun k => k ≤ l.length ∧ (List.range k).all (risAt l lo hi) = true) (fun k => l.length - k) 0 ⟨by omega, rfl⟩ none (by refine ⟨rfl, rfl, ?_, ?_⟩ <;> ((repeat' (first | exact trivial | exact rfl | refine And.intro ?_ ?_)) <;> (try ((conv => whnf); first | refine vint ?_ | refine vboo ?_ | refine rint ?_ | refine rrow ?_ | skip)) <;> (try first | omega | (simp; done) | ((repeat rw [flts_closed _ (by assumption)]); exact vws_closed _ (by assumption))))) (fun k hI => ?_)
  obtain ⟨hk, hp⟩ := hI
  refine ⟨fun h => ?_, fun h => ?_⟩
  · have h := ltT h
    conv => whnf
    refine ADraw.std tyOk mx ⟨by kernel_rfl, k, rfl, h, ?_⟩
    conv => whnf
    refine QCall.use (l1In_spec _ _ _) ?_
    refine ⟨fun h2 => ?_, fun h2 => ?_⟩
    · refine ⟨fun h3 => ?_, fun h3 => ?_⟩
      · have h3 := of_decide_eq_true h3
        conv => whnf
        rw [w64 (by omega) (by omega)]
        refine ⟨k - 1, by omega, by omega, k, rfl, h, ?_⟩
        conv => whnf
        refine ⟨fun h4 => ?_, fun h4 => ?_⟩
        · conv => whnf
          refine ⟨?_, rfl⟩
          rw [rising, rall_false h]
          have h4 := of_decide_eq_true h4
          simp only [risAt, Bool.and_eq_false_iff, Bool.or_eq_false_iff, decide_eq_false_iff_not]
          exact .inr ⟨by omega, by omega⟩
        · have h4 := of_decide_eq_false h4
          conv => whnf
          rw [nat_wrap (by omega)]
          refine ⟨k + 1, none, (by refine ⟨rfl, rfl, ?_, ?_⟩ <;> ((repeat' (first | exact trivial | exact rfl | refine And.intro ?_ ?_)) <;> (try ((conv => whnf); first | refine vint ?_ | refine vboo ?_ | refine rint ?_ | refine rrow ?_ | skip)) <;> (try first | omega | (simp; done) | ((repeat rw [flts_closed _ (by assumption)]); exact vws_closed _ (by assumption))))), ⟨by omega, rall_succ hp ?_⟩, by omega⟩
          have h2 : inR (l.getD k 0) lo hi = true := by simpa using h2
          simp only [risAt, h2, Bool.true_and, Bool.or_eq_true, decide_eq_true_eq]
          exact .inr (by omega)
      · have h3 := of_decide_eq_false h3
        conv => whnf
        first | refine ⟨fun h => absurd h (by decide), fun _ => ?_⟩ | refine ⟨fun _ => ?_, fun h => absurd h (by decide)⟩
        conv => whnf
        rw [nat_wrap (by omega)]
        refine ⟨k + 1, none, (by refine ⟨rfl, rfl, ?_, ?_⟩ <;> ((repeat' (first | exact trivial | exact rfl | refine And.intro ?_ ?_)) <;> (try ((conv => whnf); first | refine vint ?_ | refine vboo ?_ | refine rint ?_ | refine rrow ?_ | skip)) <;> (try first | omega | (simp; done) | ((repeat rw [flts_closed _ (by assumption)]); exact vws_closed _ (by assumption))))), ⟨by omega, rall_succ hp ?_⟩, by omega⟩
        have h2 : inR (l.getD k 0) lo hi = true := by simpa using h2
        simp only [risAt, h2, Bool.true_and, Bool.or_eq_true, decide_eq_true_eq]
        exact .inl (by omega)
    · conv => whnf
      first | refine ⟨fun h => absurd h (by decide), fun _ => ?_⟩ | refine ⟨fun _ => ?_, fun h => absurd h (by decide)⟩
      conv => whnf
      refine ⟨?_, rfl⟩
      have h2 : inR (l.getD k 0) lo hi = false := by simpa using h2
      rw [rising, rall_false h (by simp only [risAt, h2, Bool.false_and])]
  · have h := ltF h
    obtain rfl : k = l.length := by omega
    conv => whnf
    exact ⟨by rw [rising, hp], rfl⟩

theorem isSet_spec (l : List Int) (n : Int) (hl : l.length ≤ 9223372036854775806) :
    FSpec Try.prog 68 [.t (.ints .i64 l), .c (.int .i64 n)] (ex (.c (.bool (rising l 0 (W (n - 1))))) []) := by
  refine fspec tyOk mx Try.func68 rfl (by kernel_rfl) rfl ?_
  conv => whnf
  refine aloopI tyOk mx (fun k : Nat => (⟨33, [(0, .t (.ints .i64 l)), (1, .c (.int .i64 n)), (7, .t (.ints .i64 l)), (8, .c (.int .i64 l.length)), (9, .c (.int .i64 (k)))], [], 0⟩ : St)) (fun k => k ≤ l.length ∧ (List.range k).all (risAt l 0 (W (n - 1))) = true) (fun k => l.length - k) 0 ⟨by omega, rfl⟩ none (by refine ⟨rfl, rfl, ?_, ?_⟩ <;> ((repeat' (first | exact trivial | exact rfl | refine And.intro ?_ ?_)) <;> (try ((conv => whnf); first | refine vint ?_ | refine vboo ?_ | refine rint ?_ | refine rrow ?_ | skip)) <;> (try first | omega | (simp; done) | ((repeat rw [flts_closed _ (by assumption)]); exact vws_closed _ (by assumption))))) (fun k hI => ?_)
  obtain ⟨hk, hp⟩ := hI
  refine ⟨fun h => ?_, fun h => ?_⟩
  · have h := ltT h
    conv => whnf
    refine ⟨k, rfl, h, ?_⟩
    conv => whnf
    refine ACall.use (within_spec _ _ _) ?_
    refine ⟨fun h2 => ?_, fun h2 => ?_⟩
    · refine ⟨fun h3 => ?_, fun h3 => ?_⟩
      · have h3 := of_decide_eq_true h3
        conv => whnf
        rw [w64 (by omega) (by omega)]
        refine ⟨k - 1, by omega, by omega, ?_⟩
        conv => whnf
        refine ⟨fun h4 => ?_, fun h4 => ?_⟩
        · conv => whnf
          refine ⟨?_, rfl⟩
          rw [rising, rall_false h]
          have h4 := of_decide_eq_true h4
          simp only [risAt, Bool.and_eq_false_iff, Bool.or_eq_false_iff, decide_eq_false_iff_not]
          exact .inr ⟨by omega, by omega⟩
        · have h4 := of_decide_eq_false h4
          conv => whnf
          rw [nat_wrap (by omega)]
          refine ⟨k + 1, none, (by refine ⟨rfl, rfl, ?_, ?_⟩ <;> ((repeat' (first | exact trivial | exact rfl | refine And.intro ?_ ?_)) <;> (try ((conv => whnf); first | refine vint ?_ | refine vboo ?_ | refine rint ?_ | refine rrow ?_ | skip)) <;> (try first | omega | (simp; done) | ((repeat rw [flts_closed _ (by assumption)]); exact vws_closed _ (by assumption))))), ⟨by omega, rall_succ hp ?_⟩, by omega⟩
          have h2 : inR (l.getD k 0) 0 (W (n - 1)) = true := by simpa using h2
          simp only [risAt, h2, Bool.true_and, Bool.or_eq_true, decide_eq_true_eq]
          exact .inr (by omega)
      · have h3 := of_decide_eq_false h3
        conv => whnf
        first | refine ⟨fun h => absurd h (by decide), fun _ => ?_⟩ | refine ⟨fun _ => ?_, fun h => absurd h (by decide)⟩
        conv => whnf
        rw [nat_wrap (by omega)]
        refine ⟨k + 1, none, (by refine ⟨rfl, rfl, ?_, ?_⟩ <;> ((repeat' (first | exact trivial | exact rfl | refine And.intro ?_ ?_)) <;> (try ((conv => whnf); first | refine vint ?_ | refine vboo ?_ | refine rint ?_ | refine rrow ?_ | skip)) <;> (try first | omega | (simp; done) | ((repeat rw [flts_closed _ (by assumption)]); exact vws_closed _ (by assumption))))), ⟨by omega, rall_succ hp ?_⟩, by omega⟩
        have h2 : inR (l.getD k 0) 0 (W (n - 1)) = true := by simpa using h2
        simp only [risAt, h2, Bool.true_and, Bool.or_eq_true, decide_eq_true_eq]
        exact .inl (by omega)
    · conv => whnf
      first | refine ⟨fun h => absurd h (by decide), fun _ => ?_⟩ | refine ⟨fun _ => ?_, fun h => absurd h (by decide)⟩
      conv => whnf
      refine ⟨?_, rfl⟩
      have h2 : inR (l.getD k 0) 0 (W (n - 1)) = false := by simpa using h2
      rw [rising, rall_false h (by simp only [risAt, h2, Bool.false_and])]
  · have h := ltF h
    obtain rfl : k = l.length := by omega
    conv => whnf
    exact ⟨by rw [rising, hp], rfl⟩

theorem l7Context_spec (e : Int) (l : List Int) (hl : l.length ≤ 9223372036854775806) :
    FSpec Try.prog 115 [.c (.int .i64 e), .t (.ints .i64 l)] (ex (.c (.bool (isCtx e l))) []) := by
  refine fspec tyOk mx Try.func115 rfl (by kernel_rfl) rfl ?_
  conv => whnf
  refine ⟨fun h => ?_, fun h => ?_⟩
  · conv => whnf
    refine ACall.use (l1Rising_spec l 0 _ hl) ?_
    conv => whnf
    refine ⟨?_, rfl⟩
    have h := of_decide_eq_true h
    rw [isCtx, decide_eq_true (by omega), Bool.true_and]
  · conv => whnf
    refine ⟨?_, rfl⟩
    have h := of_decide_eq_false h
    rw [isCtx, decide_eq_false (by omega), Bool.false_and]

theorem l7Good_spec (e : Int) (m : List (List Int)) (s : List Int) (km : SzM m) (ks : SzI s) :
    FSpec Try.prog 64 [.ag [.c (.int .i64 e), .t (.rows m), .t (.ints .i64 s)]] (ex (.c (.bool (goodS e m s))) []) := by
  obtain ⟨i, j, z⟩ := km.all
  have ks' : s.length ≤ 1048576 := ks
  refine fspec tyOk mx Try.func64 rfl (by kernel_rfl) rfl ?_
  conv => whnf
  refine aloopI tyOk mx (fun k : Nat => (⟨37, [(1, .ptr 0 0), (3, .c (.int .i64 (k)))], [(0, .cells 36 [.c (.int .i64 (e)), .t (.rows m), .t (.ints .i64 s)])], 1⟩ : St)) (fun k => k ≤ m.length ∧ (m.take k).all (isCtx e) = true) (fun k => m.length - k) 0 ⟨by omega, rfl⟩ none (by refine ⟨rfl, rfl, ?_, ?_⟩ <;> ((repeat' (first | exact trivial | exact rfl | refine And.intro ?_ ?_)) <;> (try ((conv => whnf); first | refine vint ?_ | refine vboo ?_ | refine rint ?_ | refine rrow ?_ | skip)) <;> (try first | omega | (simp; done) | ((repeat rw [flts_closed _ (by assumption)]); exact vws_closed _ (by assumption))))) (fun k hI => ?_)
  obtain ⟨hk, hp⟩ := hI
  refine ⟨fun h => ?_, fun h => ?_⟩
  · have h := ltT h
    refine ADraw.std tyOk mx ⟨by kernel_rfl, k, rfl, h, ?_⟩
    conv => whnf
    refine QCall.use (l7Context_spec e (m.getD k []) (by have := j _ (getD_mem (d := []) h); omega)) ?_
    refine ⟨fun h2 => ?_, fun h2 => ?_⟩
    · conv => whnf
      refine ⟨?_, rfl⟩
      rw [goodS, all_false (d := []) h (by simpa using h2), Bool.and_false]
    · conv => whnf
      rw [nat_wrap (by omega)]
      exact ⟨k + 1, none, (by refine ⟨rfl, rfl, ?_, ?_⟩ <;> ((repeat' (first | exact trivial | exact rfl | refine And.intro ?_ ?_)) <;> (try ((conv => whnf); first | refine vint ?_ | refine vboo ?_ | refine rint ?_ | refine rrow ?_ | skip)) <;> (try first | omega | (simp; done) | ((repeat rw [flts_closed _ (by assumption)]); exact vws_closed _ (by assumption))))), ⟨by omega, all_take_succ (d := []) h hp (by simpa using h2)⟩, by omega⟩
  · have h := ltF h
    have hall := all_end h hp
    conv => whnf
    refine ACall.use (l1In_spec _ _ _) ?_
    conv => whnf
    refine ⟨fun h2 => ?_, fun h2 => ?_⟩
    · conv => whnf
      refine ⟨fun h3 => ?_, fun h3 => ?_⟩
      · have h3 := of_decide_eq_true h3
        conv => whnf
        refine ACall.use (l2Bits_spec s _ (by omega)) ?_
        conv => whnf
        refine ⟨?_, rfl⟩
        have e9 : decide ((s.length : Int) = (m.length : Int)) = decide (s.length = m.length) := decide_eq_decide.2 Int.natCast_inj
        rw [e9, goodS, h2, hall, decide_eq_true (show m.length ≤ 10 by omega), Bool.true_and, Bool.and_true, Bool.true_and, Bool.and_comm]
      · have h3 := of_decide_eq_false h3
        conv => whnf
        refine ⟨?_, rfl⟩
        rw [goodS, decide_eq_false (show ¬ m.length ≤ 10 by omega)]
        simp
    · conv => whnf
      first | refine ⟨fun h => absurd h (by decide), fun _ => ?_⟩ | refine ⟨fun _ => ?_, fun h => absurd h (by decide)⟩
      conv => whnf
      refine ⟨?_, rfl⟩
      rw [goodS, h2]
      simp

theorem iIsScene_spec (e : Int) (m : List (List Int)) (s : List Int) (km : SzM m) (ks : SzI s) :
    FSpec Try.prog 67 [.ag [.c (.int .i64 e), .t (.rows m), .t (.ints .i64 s)]] (ex (.c (.bool (goodS e m s))) []) := by
  obtain ⟨i, j, z⟩ := km.all
  have ks' : s.length ≤ 1048576 := ks
  refine fspec tyOk mx Try.func67 rfl (by kernel_rfl) rfl ?_
  conv => whnf
  refine ACall.use (within_spec _ _ _) ?_
  conv => whnf
  refine ⟨fun h1 => ?_, fun h1 => ?_⟩
  · have h1 : inR e 0 12 = true := by simpa using h1
    conv => whnf
    refine ⟨fun h2 => ?_, fun h2 => ?_⟩
    · have h2 : m.length ≤ 10 := by have := of_decide_eq_false h2; omega
      conv => whnf
      refine ⟨fun h3 => ?_, fun h3 => ?_⟩
      · have h3 : s.length = m.length := by simp at h3; omega
        conv => whnf
        refine ACall.use (allWithin_spec s 0 1 (by omega)) ?_
        conv => whnf
        refine ⟨fun h4 => ?_, fun h4 => ?_⟩
        · conv => whnf
          refine ⟨?_, rfl⟩
          rw [goodS, show rowIn s 0 1 = false by simpa using h4]
          simp
        · have h4 : rowIn s 0 1 = true := by simpa using h4
          conv => whnf
          refine aloopI tyOk mx (fun k : Nat => (⟨48, [(1, .ptr 0 0), (31, .t (.rows m)), (32, .c (.int .i64 (m.length))), (33, .c (.int .i64 (k)))], [(0, .cells 36 [.c (.int .i64 (e)), .t (.rows m), .t (.ints .i64 s)])], 1⟩ : St)) (fun k => k ≤ m.length ∧ (m.take k).all (isCtx e) = true) (fun k => m.length - k) 0 ⟨by omega, rfl⟩ none (by refine ⟨rfl, rfl, ?_, ?_⟩ <;> ((repeat' (first | exact trivial | exact rfl | refine And.intro ?_ ?_)) <;> (try ((conv => whnf); first | refine vint ?_ | refine vboo ?_ | refine rint ?_ | refine rrow ?_ | skip)) <;> (try first | omega | (simp; done) | ((repeat rw [flts_closed _ (by assumption)]); exact vws_closed _ (by assumption))))) (fun k hI => ?_)
          obtain ⟨hk, hp⟩ := hI
          refine ⟨fun h => ?_, fun h => ?_⟩
          · have h := ltT h
            conv => whnf
            refine ⟨k, rfl, h, ?_⟩
            conv => whnf
            refine ⟨fun h5 => ?_, fun h5 => ?_⟩
            · have h5 : ¬ (m.getD k []).length = 0 := by simpa using h5
              conv => whnf
              refine ACall.use (isSet_spec (m.getD k []) e (by have := j _ (getD_mem (d := []) h); omega)) ?_
              conv => whnf
              refine ⟨fun h6 => ?_, fun h6 => ?_⟩
              · conv => whnf
                refine ⟨?_, rfl⟩
                rw [goodS, all_false (d := []) h (by rw [isCtx, show rising (m.getD k []) 0 (W (e - 1)) = false by simpa using h6, Bool.and_false]), Bool.and_false]
              · conv => whnf
                rw [nat_wrap (by omega)]
                exact ⟨k + 1, none, (by refine ⟨rfl, rfl, ?_, ?_⟩ <;> ((repeat' (first | exact trivial | exact rfl | refine And.intro ?_ ?_)) <;> (try ((conv => whnf); first | refine vint ?_ | refine vboo ?_ | refine rint ?_ | refine rrow ?_ | skip)) <;> (try first | omega | (simp; done) | ((repeat rw [flts_closed _ (by assumption)]); exact vws_closed _ (by assumption))))), ⟨by omega, all_take_succ (d := []) h hp (by rw [isCtx, decide_eq_true (by omega), Bool.true_and]; simpa using h6)⟩, by omega⟩
            · have h5 : (m.getD k []).length = 0 := by simpa using h5
              conv => whnf
              first | refine ⟨fun h => absurd h (by decide), fun _ => ?_⟩ | refine ⟨fun _ => ?_, fun h => absurd h (by decide)⟩
              conv => whnf
              refine ⟨?_, rfl⟩
              rw [goodS, all_false (d := []) h (by rw [isCtx, decide_eq_false (by omega), Bool.false_and]), Bool.and_false]
          · have h := ltF h
            conv => whnf
            refine ⟨?_, rfl⟩
            rw [goodS, all_end h hp, h1, h3, h4]
            simp [h2]
      · have h3 : ¬ s.length = m.length := by simp at h3; omega
        conv => whnf
        first | refine ⟨fun h => absurd h (by decide), fun _ => ?_⟩ | refine ⟨fun _ => ?_, fun h => absurd h (by decide)⟩
        conv => whnf
        refine ⟨?_, rfl⟩
        rw [goodS, decide_eq_false h3]
        simp
    · have h2 : ¬ m.length ≤ 10 := by have := of_decide_eq_true h2; omega
      conv => whnf
      first | refine ⟨fun h => absurd h (by decide), fun _ => ?_⟩ | refine ⟨fun _ => ?_, fun h => absurd h (by decide)⟩
      conv => whnf
      first | refine ⟨fun h => absurd h (by decide), fun _ => ?_⟩ | refine ⟨fun _ => ?_, fun h => absurd h (by decide)⟩
      conv => whnf
      refine ⟨?_, rfl⟩
      rw [goodS, decide_eq_false h2]
      simp
  · have h1 : inR e 0 12 = false := by simpa using h1
    conv => whnf
    first | refine ⟨fun h => absurd h (by decide), fun _ => ?_⟩ | refine ⟨fun _ => ?_, fun h => absurd h (by decide)⟩
    conv => whnf
    first | refine ⟨fun h => absurd h (by decide), fun _ => ?_⟩ | refine ⟨fun _ => ?_, fun h => absurd h (by decide)⟩
    conv => whnf
    first | refine ⟨fun h => absurd h (by decide), fun _ => ?_⟩ | refine ⟨fun _ => ?_, fun h => absurd h (by decide)⟩
    conv => whnf
    refine ⟨?_, rfl⟩
    rw [goodS, h1]
    simp

end Go.Proofs.Ytljlhbgkmkdphaa
