/- IsLid and EvenLid, reference and program. -/
import Derived.Test.YtgobkndgaphacaaDet6
namespace Go.Aw
theorem find_some {p : Nat → Bool} {n d : Nat} (hd : d < n) (hp : p d = true) (h : (List.range d).all (fun e => !p e) = true) : (List.range n).find? p = some d := by
  rw [List.find?_range_eq_some]
  refine ⟨hp, by simpa using hd, fun j hj => ?_⟩
  have := List.all_eq_true.1 h j (by simpa using hj)
  simpa using this
theorem find_none {p : Nat → Bool} {n : Nat} (h : (List.range n).all (fun e => !p e) = true) : (List.range n).find? p = none := by
  rw [List.find?_eq_none]
  intro x hx
  have := List.all_eq_true.1 h x hx
  simpa using this
end Go.Aw
namespace Go.Proofs.Ytgobkndgaphacaa
open Go.Aw
set_option maxRecDepth 100000
set_option maxHeartbeats 4000000

def ldOk (m : List (List Int)) (k : Int) : Bool := goodM m && inR k 1 5
def ldIs (m : List (List Int)) (lid : List Int) (k : Int) : Bool := ldOk m k && lidB m lid k

theorem IsLid_s (m : List (List Int)) (hm : OkM m) (_km : SzM m) (lid : List Int) (_hl : OkI lid) (kl : SzI lid) (k : Int) (_hk : InR k) :
    FSpec Try.prog 17 [.t (.rows m), .t (.ints .i64 lid), .c (.int .i64 (k))] (ex (.tu [.c (.bool (ldIs m lid k)), .c (.bool (ldOk m k))]) []) := by
  refine fspec tyOk mx Try.func17 rfl (by kernel_rfl) rfl ?_
  conv => whnf
  refine ACall.use (l5Good_spec m hm.1 hm.len) ?_
  conv => whnf
  refine ⟨fun h => ?_, fun h => ?_⟩
  · have hg : goodM m = true := by simpa using h
    conv => whnf
    refine ACall.use (l1In_spec _ _ _) ?_
    conv => whnf
    refine ⟨fun h2 => ?_, fun h2 => ?_⟩
    · have h2 : inR k 1 5 = false := by simpa using h2
      have e : ldOk m k = false := by rw [ldOk, h2, Bool.and_false]
      conv => whnf
      exact ⟨by rw [ldIs, e]; rfl, rfl⟩
    · have h2 : inR k 1 5 = true := by simpa using h2
      have e : ldOk m k = true := by rw [ldOk, hg, h2]; rfl
      conv => whnf
      refine ACall.use (l5Lid_spec m lid k hg kl) ?_
      conv => whnf
      exact ⟨by rw [ldIs, e, Bool.true_and], rfl⟩
  · have hg : goodM m = false := by simpa using h
    have e : ldOk m k = false := by rw [ldOk, hg]; rfl
    conv => whnf
    (repeat (conv => whnf); (first | refine ⟨fun h => absurd h (by decide), fun _ => ?_⟩ | refine ⟨fun _ => ?_, fun h => absurd h (by decide)⟩)); conv => whnf
    exact ⟨by rw [ldIs, e]; rfl, rfl⟩

theorem IsLid_i (m : List (List Int)) (hm : OkM m) (_km : SzM m) (lid : List Int) (_hl : OkI lid) (kl : SzI lid) (k : Int) (_hk : InR k) :
    FSpec Try.prog 19 [.t (.rows m), .t (.ints .i64 lid), .c (.int .i64 (k))] (ex (.tu [.c (.bool (ldIs m lid k)), .c (.bool (ldOk m k))]) []) := by
  refine fspec tyOk mx Try.func19 rfl (by kernel_rfl) rfl ?_
  conv => whnf
  refine ACall.use (iIsSignGame_spec m hm.1 hm.len) ?_
  conv => whnf
  refine ⟨fun h => ?_, fun h => ?_⟩
  · have hg : goodM m = true := by simpa using h
    conv => whnf
    refine ACall.use (within_spec _ _ _) ?_
    conv => whnf
    refine ⟨fun h2 => ?_, fun h2 => ?_⟩
    · have h2 : inR k 1 5 = false := by simpa using h2
      have e : ldOk m k = false := by rw [ldOk, h2, Bool.and_false]
      conv => whnf
      exact ⟨by rw [ldIs, e]; rfl, rfl⟩
    · have h2 : inR k 1 5 = true := by simpa using h2
      have e : ldOk m k = true := by rw [ldOk, hg, h2]; rfl
      conv => whnf
      refine ACall.use (isLid_spec m lid k hg kl) ?_
      conv => whnf
      exact ⟨by rw [ldIs, e, Bool.true_and], rfl⟩
  · have hg : goodM m = false := by simpa using h
    have e : ldOk m k = false := by rw [ldOk, hg]; rfl
    conv => whnf
    (repeat (conv => whnf); (first | refine ⟨fun h => absurd h (by decide), fun _ => ?_⟩ | refine ⟨fun _ => ?_, fun h => absurd h (by decide)⟩)); conv => whnf
    exact ⟨by rw [ldIs, e]; rfl, rfl⟩

def evAt (m : List (List Int)) (k : Int) (d : Nat) : Bool := lidB m (List.replicate (m.length + (m.getD 0 []).length) (d : Int)) k
def evD (m : List (List Int)) (k : Int) : Option Nat := (List.range 100).find? (evAt m k)
def evOk (m : List (List Int)) (k : Int) : Bool := ldOk m k && (evD m k).isSome
def evR (m : List (List Int)) (k : Int) : List Int := List.replicate (m.length + (m.getD 0 []).length) (((evD m k).getD 0 : Nat) : Int)
def evL (m : List (List Int)) (k : Int) : List Int := if evOk m k then evR m k else []

theorem EvenLid_s (m : List (List Int)) (hm : OkM m) (_km : SzM m) (k : Int) (_hk : InR k) :
    FSpec Try.prog 21 [.t (.rows m), .c (.int .i64 (k))] (ex (.tu [.own 0, .c (.bool (evOk m k))]) [(0, .ints 3 .i64 (evL m k))]) := by
  refine fspec tyOk mx Try.func21 rfl (by kernel_rfl) rfl ?_
  conv => whnf
  refine ACall.use (l5Good_spec m hm.1 hm.len) ?_
  conv => whnf
  refine ⟨fun h => ?_, fun h => ?_⟩
  · have hg : goodM m = true := by simpa using h
    obtain ⟨g1, g2, g3, g4, g5⟩ := goodM_spec hg
    have eN : IntKind.i64.wrap ((m.length : Int) + ((m.getD 0 []).length : Int)) = ((m.length + (m.getD 0 []).length : Nat) : Int) := by rw [w64 (by omega) (by omega)]; omega
    conv => whnf
    refine ACall.use (l1In_spec _ _ _) ?_
    conv => whnf
    refine ⟨fun h2 => ?_, fun h2 => ?_⟩
    · have h2 : inR k 1 5 = false := by simpa using h2
      have e : evOk m k = false := by rw [evOk, ldOk, h2, Bool.and_false, Bool.false_and]
      conv => whnf
      exact ⟨by rw [e], by rw [evL, e]; rfl⟩
    · have h2 : inR k 1 5 = true := by simpa using h2
      have e0 : ldOk m k = true := by rw [ldOk, hg, h2]; rfl
      conv => whnf
      refine aloopI tyOk mx (fun d : Nat => (⟨44, [(0, .t (.rows m)), (1, .c (.int .i64 (k))), (6, .c (.int .i64 (d)))], [], 0⟩ : St)) (fun d => d ≤ 100 ∧ (List.range d).all (fun e => !evAt m k e) = true) (fun d => 100 - d) 0 ⟨Nat.zero_le _, rfl⟩ none (by refine ⟨rfl, rfl, ?_, ?_⟩ <;> ((repeat' (first | exact trivial | exact rfl | refine And.intro ?_ ?_)) <;> (try ((conv => whnf); first | refine vint ?_ | refine vboo ?_ | refine rint ?_ | refine rrow ?_ | skip)) <;> (try first | omega | (simp; done) | ((repeat rw [flts_closed _ (by assumption)]); exact vws_closed _ (by assumption))))) (fun d hd => ?_)
      obtain ⟨hd, hp⟩ := hd
      refine ⟨fun h3 => ?_, fun h3 => ?_⟩
      · have h3 : d < 100 := by have := of_decide_eq_true h3; omega
        conv => whnf
        refine aloopI tyOk mx (fun i : Nat => (⟨44, [(0, .t (.rows m)), (1, .c (.int .i64 (k))), (6, .c (.int .i64 (d))), (7, .own 0), (8, .c (.int .i64 (i)))], [(0, .ints 3 .i64 (List.replicate i (d : Int)))], 1⟩ : St)) (fun i => i ≤ m.length + (m.getD 0 []).length) (fun i => m.length + (m.getD 0 []).length - i) 0 (Nat.zero_le _) none (by refine ⟨rfl, rfl, ?_, ?_⟩ <;> ((repeat' (first | exact trivial | exact rfl | refine And.intro ?_ ?_)) <;> (try ((conv => whnf); first | refine vint ?_ | refine vboo ?_ | refine rint ?_ | refine rrow ?_ | skip)) <;> (try first | omega | (simp; done) | ((repeat rw [flts_closed _ (by assumption)]); exact vws_closed _ (by assumption))))) (fun i hi => ?_)
        refine ⟨0, rfl, by omega, ?_⟩
        conv => whnf
        rw [eN]
        refine ⟨fun h4 => ?_, fun h4 => ?_⟩
        · have h4 : i < m.length + (m.getD 0 []).length := by have := ltT h4; omega
          conv => whnf
          refine ⟨by simp [room]; omega, ?_⟩
          conv => whnf
          rw [nat_wrap (by omega)]
          refine ⟨i + 1, none, ?_, by omega, by omega⟩
          (refine ⟨rfl, rfl, ?_, ?_⟩ <;> ((repeat' (first | exact trivial | exact rfl | refine And.intro ?_ ?_)) <;> (try ((conv => whnf); first | refine vint ?_ | refine vboo ?_ | refine rint ?_ | refine rrow ?_ | skip)) <;> (try first | omega | (simp; done) | ((repeat rw [flts_closed _ (by assumption)]); exact vws_closed _ (by assumption)))))
          exact (List.replicate_succ' (n := i) (a := (d : Int))).symm
        · have h4 : ¬ i < m.length + (m.getD 0 []).length := by have := ltF h4; omega
          obtain rfl : i = m.length + (m.getD 0 []).length := by omega
          conv => whnf
          refine ACall.use (l5Lid_spec m (List.replicate (m.length + (m.getD 0 []).length) (d : Int)) k hg (by rw [List.length_replicate]; omega)) ?_
          conv => whnf
          refine ⟨fun h5 => ?_, fun h5 => ?_⟩
          · have h5 : evAt m k d = true := h5
            have hD : evD m k = some d := find_some h3 h5 hp
            have e : evOk m k = true := by rw [evOk, e0, hD]; rfl
            conv => whnf
            exact ⟨by rw [e], by rw [evL, e, if_pos rfl, evR, hD]; rfl⟩
          · have h5 : evAt m k d = false := h5
            conv => whnf
            rw [nat_wrap (by omega)]
            exact ⟨d + 1, none, (by refine ⟨rfl, rfl, ?_, ?_⟩ <;> ((repeat' (first | exact trivial | exact rfl | refine And.intro ?_ ?_)) <;> (try ((conv => whnf); first | refine vint ?_ | refine vboo ?_ | refine rint ?_ | refine rrow ?_ | skip)) <;> (try first | omega | (simp; done) | ((repeat rw [flts_closed _ (by assumption)]); exact vws_closed _ (by assumption))))), ⟨by omega, rall_succ hp (by rw [h5]; rfl)⟩, by omega⟩
      · have h3 : ¬ d < 100 := by have := of_decide_eq_false h3; omega
        obtain rfl : d = 100 := by omega
        have hD : evD m k = none := find_none hp
        have e : evOk m k = false := by rw [evOk, hD]; simp
        conv => whnf
        exact ⟨by rw [e], by rw [evL, e]; rfl⟩
  · have hg : goodM m = false := by simpa using h
    have e : evOk m k = false := by rw [evOk, ldOk, hg]; rfl
    conv => whnf
    (repeat (conv => whnf); (first | refine ⟨fun h => absurd h (by decide), fun _ => ?_⟩ | refine ⟨fun _ => ?_, fun h => absurd h (by decide)⟩)); conv => whnf
    exact ⟨by rw [e], by rw [evL, e]; rfl⟩

theorem EvenLid_i (m : List (List Int)) (hm : OkM m) (_km : SzM m) (k : Int) (_hk : InR k) :
    FSpec Try.prog 22 [.t (.rows m), .c (.int .i64 (k))] (ex (.tu [.own 0, .c (.bool (evOk m k))]) [(0, .ints 3 .i64 (evL m k))]) := by
  refine view_ints ?_
  refine fspec tyOk mx Try.func22 rfl (by kernel_rfl) rfl ?_
  conv => whnf
  refine ACall.use (iIsSignGame_spec m hm.1 hm.len) ?_
  conv => whnf
  refine ⟨fun h => ?_, fun h => ?_⟩
  · have hg : goodM m = true := by simpa using h
    obtain ⟨g1, g2, g3, g4, g5⟩ := goodM_spec hg
    have eN : IntKind.i64.wrap ((m.length : Int) + ((m.getD 0 []).length : Int)) = ((m.length + (m.getD 0 []).length : Nat) : Int) := by rw [w64 (by omega) (by omega)]; omega
    conv => whnf
    refine ACall.use (within_spec _ _ _) ?_
    conv => whnf
    refine ⟨fun h2 => ?_, fun h2 => ?_⟩
    · have h2 : inR k 1 5 = false := by simpa using h2
      have e : evOk m k = false := by rw [evOk, ldOk, h2, Bool.and_false, Bool.false_and]
      conv => whnf
      exact .inl ⟨e, rfl, rfl⟩
    · have h2 : inR k 1 5 = true := by simpa using h2
      have e0 : ldOk m k = true := by rw [ldOk, hg, h2]; rfl
      conv => whnf
      refine aloopI tyOk mx (fun d : Nat => (⟨40, [(0, .t (.rows m)), (1, .c (.int .i64 (k))), (16, .c (.int .i64 (d)))], [], 0⟩ : St)) (fun d => d ≤ 100 ∧ (List.range d).all (fun e => !evAt m k e) = true) (fun d => 100 - d) 0 ⟨Nat.zero_le _, rfl⟩ none (by refine ⟨rfl, rfl, ?_, ?_⟩ <;> ((repeat' (first | exact trivial | exact rfl | refine And.intro ?_ ?_)) <;> (try ((conv => whnf); first | refine vint ?_ | refine vboo ?_ | refine rint ?_ | refine rrow ?_ | skip)) <;> (try first | omega | (simp; done) | ((repeat rw [flts_closed _ (by assumption)]); exact vws_closed _ (by assumption))))) (fun d hd => ?_)
      obtain ⟨hd, hp⟩ := hd
      refine ⟨fun h3 => ?_, fun h3 => ?_⟩
      · have h3 : d < 100 := by have := of_decide_eq_true h3; omega
        conv => whnf
        refine ⟨0, rfl, by omega, ?_⟩
        conv => whnf
        rw [eN]
        refine aloopI tyOk mx (fun i : Nat => (⟨40, [(0, .t (.rows m)), (1, .c (.int .i64 (k))), (6, .c (.int .i64 (d))), (7, .own 0), (16, .c (.int .i64 (d))), (26, .c (.int .i64 ((m.length + (m.getD 0 []).length : Nat)))), (27, .c (.int .i64 (i)))], [(0, .ints 3 .i64 (List.replicate i (d : Int)))], 1⟩ : St)) (fun i => i ≤ m.length + (m.getD 0 []).length) (fun i => m.length + (m.getD 0 []).length - i) 0 (Nat.zero_le _) none (by refine ⟨rfl, rfl, ?_, ?_⟩ <;> ((repeat' (first | exact trivial | exact rfl | refine And.intro ?_ ?_)) <;> (try ((conv => whnf); first | refine vint ?_ | refine vboo ?_ | refine rint ?_ | refine rrow ?_ | skip)) <;> (try first | omega | (simp; done) | ((repeat rw [flts_closed _ (by assumption)]); exact vws_closed _ (by assumption))))) (fun i hi => ?_)
        refine ⟨fun h4 => ?_, fun h4 => ?_⟩
        · have h4 : i < m.length + (m.getD 0 []).length := by have := ltT h4; omega
          conv => whnf
          refine ⟨by simp [room]; omega, ?_⟩
          conv => whnf
          rw [nat_wrap (by omega)]
          refine ⟨i + 1, none, ?_, by omega, by omega⟩
          (refine ⟨rfl, rfl, ?_, ?_⟩ <;> ((repeat' (first | exact trivial | exact rfl | refine And.intro ?_ ?_)) <;> (try ((conv => whnf); first | refine vint ?_ | refine vboo ?_ | refine rint ?_ | refine rrow ?_ | skip)) <;> (try first | omega | (simp; done) | ((repeat rw [flts_closed _ (by assumption)]); exact vws_closed _ (by assumption)))))
          exact (List.replicate_succ' (n := i) (a := (d : Int))).symm
        · have h4 : ¬ i < m.length + (m.getD 0 []).length := by have := ltF h4; omega
          obtain rfl : i = m.length + (m.getD 0 []).length := by omega
          conv => whnf
          refine ACall.use (isLid_spec m (List.replicate (m.length + (m.getD 0 []).length) (d : Int)) k hg (by rw [List.length_replicate]; omega)) ?_
          conv => whnf
          refine ⟨fun h5 => ?_, fun h5 => ?_⟩
          · have h5 : evAt m k d = true := h5
            have hD : evD m k = some d := find_some h3 h5 hp
            have e : evOk m k = true := by rw [evOk, e0, hD]; rfl
            conv => whnf
            exact .inr ⟨e, rfl, by rw [evR, hD]; rfl⟩
          · have h5 : evAt m k d = false := h5
            conv => whnf
            rw [nat_wrap (by omega)]
            exact ⟨d + 1, none, (by refine ⟨rfl, rfl, ?_, ?_⟩ <;> ((repeat' (first | exact trivial | exact rfl | refine And.intro ?_ ?_)) <;> (try ((conv => whnf); first | refine vint ?_ | refine vboo ?_ | refine rint ?_ | refine rrow ?_ | skip)) <;> (try first | omega | (simp; done) | ((repeat rw [flts_closed _ (by assumption)]); exact vws_closed _ (by assumption))))), ⟨by omega, rall_succ hp (by rw [h5]; rfl)⟩, by omega⟩
      · have h3 : ¬ d < 100 := by have := of_decide_eq_false h3; omega
        obtain rfl : d = 100 := by omega
        have hD : evD m k = none := find_none hp
        have e : evOk m k = false := by rw [evOk, hD]; simp
        conv => whnf
        exact .inl ⟨e, rfl, rfl⟩
  · have hg : goodM m = false := by simpa using h
    have e : evOk m k = false := by rw [evOk, ldOk, hg]; rfl
    conv => whnf
    (repeat (conv => whnf); (first | refine ⟨fun h => absurd h (by decide), fun _ => ?_⟩ | refine ⟨fun _ => ?_, fun h => absurd h (by decide)⟩)); conv => whnf
    exact .inl ⟨e, rfl, rfl⟩
theorem EvenLid_bd (m : List (List Int)) (_hm : OkM m) (_km : SzM m) (k : Int) (_hk : InR k) : (evL m k).length ≤ 1048576 := by
  unfold evL
  split
  · rename_i h
    have hg : goodM m = true := by
      simp only [evOk, ldOk, Bool.and_eq_true] at h; exact h.1.1
    obtain ⟨g1, g2, g3, g4, g5⟩ := goodM_spec hg
    rw [evR, List.length_replicate]; omega
  · simp
end Go.Proofs.Ytgobkndgaphacaa
