/- Scores of plays: reference and program. -/
import Derived.Test.YtpakfehinfcdoaaGame1
import Derived.Test.YtpakfehinfcdoaaPlays
namespace Go.Aw
def bitIx (p : List Int) (n i k : Nat) : Nat := (2 * p.getD i 0 + p.getD (n + k) 0).toNat
theorem bits_mem {p : List Int} (h : ∀ v, v ∈ p → 0 ≤ v ∧ v ≤ 1) {i : Nat} : 0 ≤ p.getD i 0 ∧ p.getD i 0 ≤ 1 := by
  by_cases hi : i < p.length
  · exact h _ (by rw [List.getD_eq_getElem?_getD, List.getElem?_eq_getElem hi]; exact List.getElem_mem _)
  · rw [List.getD_eq_getElem?_getD, List.getElem?_eq_none (by omega)]; simp
theorem bitIx_eq {p : List Int} (h : ∀ v, v ∈ p → 0 ≤ v ∧ v ≤ 1) (n i k : Nat) : IntKind.i64.wrap (IntKind.i64.wrap (2 * p.getD i 0) + p.getD (n + k) 0) = ((bitIx p n i k : Nat) : Int) ∧ bitIx p n i k < 4 := by
  have h1 := bits_mem h (i := i)
  have h2 := bits_mem h (i := n + k)
  unfold bitIx
  rw [w64 (n := 2 * p.getD i 0) (by omega) (by omega), w64 (by omega) (by omega)]
  omega
def wonAt (s : List Int) (m : List (List Int)) (p : List Int) (nx ny i k : Nat) : Int := W (s.getD (i * ny + k) 0 * (m.getD (i * ny + k) []).getD (bitIx p nx i k) 0)
def scoreRow (s : List Int) (m : List (List Int)) (p : List Int) (nx ny i : Nat) (a : Int) (n : Nat) : Int := fo (fun a k => W (a + wonAt s m p nx ny i k)) a n
def scoreTo (s : List Int) (m : List (List Int)) (p : List Int) (nx ny n : Nat) : Int := fo (fun a i => scoreRow s m p nx ny i a ny) 0 n
def pwRow (f : List (List Int)) (p : List Int) (nx ny i : Nat) (a : Int) (n : Nat) : Int := fo (fun a k => W (a + (f.getD (i * ny + k) []).getD (bitIx p nx i k) 0)) a n
def pwTo (f : List (List Int)) (p : List Int) (nx ny n : Nat) : Int := fo (fun a i => pwRow f p nx ny i a ny) 0 n
def fnGRow (s : List Int) (m : List (List Int)) (i : Nat) : List Int := (m.getD i []).map (fun w => W (w * s.getD i 0))
def funG (s : List Int) (m : List (List Int)) : List (List Int) := (List.range m.length).map (fnGRow s m)
theorem pw_score (s : List Int) (m : List (List Int)) (p : List Int) (nx ny : Nat) (hp : ∀ v, v ∈ p → 0 ≤ v ∧ v ≤ 1) (hm : m.length = nx * ny) (h4 : ∀ r, r ∈ m → r.length = 4) :
    pwTo (funG s m) p nx ny nx = scoreTo s m p nx ny nx := by
  refine fo_congr fun a i hi => fo_congr fun b k hk => ?_
  have hlt := ix_lt hi hk
  have hb := (bitIx_eq hp nx i k).2
  have hrow : (m.getD (i * ny + k) []).length = 4 := h4 _ (by rw [List.getD_eq_getElem?_getD, List.getElem?_eq_getElem (by omega)]; exact List.getElem_mem _)
  rw [funG, range_getD (by omega), fnGRow, map_getD (d := 0) (by omega), wonAt, Int.mul_comm]
end Go.Aw
namespace Go.Proofs.Ytpakfehinfcdoaa
open Go.Aw
set_option maxRecDepth 100000
set_option maxHeartbeats 4000000

theorem l4Won_spec (nx ny i k q : Nat) (s : List Int) (m : List (List Int)) (A B : Int) (hs : i * ny + k < s.length) (hm : i * ny + k < m.length) (hb : i * ny + k ≤ 1000000) (hq : IntKind.i64.wrap (IntKind.i64.wrap (2 * A) + B) = (q : Int)) (hl : q < (m.getD (i * ny + k) []).length) :
    FSpec Try.prog 52 [.ag [.c (.int .i64 (nx)), .c (.int .i64 (ny)), .t (.ints .i64 s), .t (.rows m)], .c (.int .i64 (i)), .c (.int .i64 (k)), .c (.int .i64 (A)), .c (.int .i64 (B))] (ex (.c (.int .i64 (W (s.getD (i * ny + k) 0 * (m.getD (i * ny + k) []).getD q 0)))) []) := by
  refine fspec tyOk mx Try.func52 rfl (by kernel_rfl) rfl ?_
  conv => whnf
  refine ADraw.std tyOk mx ⟨by kernel_rfl, i * ny + k, natMulAdd hb, hs, i * ny + k, natMulAdd hb, hm, q, hq, hl, ?_⟩
  conv => whnf
  exact ⟨rfl, rfl⟩


theorem playWorth_spec (nx ny : Nat) (f : List (List Int)) (p : List Int) (hx : nx ≤ 3) (hy : ny ≤ 3) (hf : f.length = nx * ny) (h4 : ∀ r, r ∈ f → r.length = 4) (hp : ∀ v, v ∈ p → 0 ≤ v ∧ v ≤ 1) (hl : p.length = nx + ny) :
    FSpec Try.prog 53 [.c (.int .i64 (nx)), .c (.int .i64 (ny)), .t (.rows f), .t (.ints .i64 p)] (ex (.c (.int .i64 (pwTo f p nx ny nx))) []) := by
  have hn : nx * ny ≤ 3 * 3 := Nat.mul_le_mul hx hy
  refine fspec tyOk mx Try.func53 rfl (by kernel_rfl) rfl ?_
  conv => whnf
  refine aloopI tyOk mx (fun i : Nat => (⟨47, [(0, .c (.int .i64 (nx))), (1, .c (.int .i64 (ny))), (2, .t (.rows f)), (3, .t (.ints .i64 p)), (9, .c (.int .i64 (pwTo f p nx ny i))), (12, .c (.int .i64 (nx))), (13, .c (.int .i64 (i)))], [], 0⟩ : St)) (fun i => i ≤ nx) (fun i => nx - i) 0 (Nat.zero_le _) none (by refine ⟨rfl, rfl, ?_, ?_⟩ <;> ((repeat' (first | exact trivial | exact rfl | refine And.intro ?_ ?_)) <;> (try ((conv => whnf); first | refine vint ?_ | refine vboo ?_ | refine rint ?_ | refine rrow ?_ | skip)) <;> (try first | omega | (simp; done) | ((repeat rw [flts_closed _ (by assumption)]); exact vws_closed _ (by assumption))))) (fun i hi => ?_)
  refine ⟨fun h => ?_, fun h => ?_⟩
  · have h := ltT h
    conv => whnf
    refine aloopI tyOk mx (fun k : Nat => (⟨47, [(0, .c (.int .i64 (nx))), (1, .c (.int .i64 (ny))), (2, .t (.rows f)), (3, .t (.ints .i64 p)), (9, .c (.int .i64 (pwRow f p nx ny i (pwTo f p nx ny i) k))), (10, .c (.int .i64 (i))), (12, .c (.int .i64 (nx))), (13, .c (.int .i64 (i))), (16, .c (.int .i64 (ny))), (17, .c (.int .i64 (k)))], [], 0⟩ : St)) (fun k => k ≤ ny) (fun k => ny - k) 0 (Nat.zero_le _) none (by refine ⟨rfl, rfl, ?_, ?_⟩ <;> ((repeat' (first | exact trivial | exact rfl | refine And.intro ?_ ?_)) <;> (try ((conv => whnf); first | refine vint ?_ | refine vboo ?_ | refine rint ?_ | refine rrow ?_ | skip)) <;> (try first | omega | (simp; done) | ((repeat rw [flts_closed _ (by assumption)]); exact vws_closed _ (by assumption))))) (fun k hk => ?_)
    refine ⟨fun h2 => ?_, fun h2 => ?_⟩
    · have h2 := ltT h2
      have hlt := ix_lt h h2
      have hb := bitIx_eq hp nx i k
      have hrow : (f.getD (i * ny + k) []).length = 4 := h4 _ (getD_mem (by omega))
      conv => whnf
      refine ADraw.std tyOk mx ⟨by kernel_rfl, i * ny + k, natMulAdd (by omega), by omega, i, rfl, by omega, nx + k, natAdd (by omega), by omega, bitIx p nx i k, hb.1, by omega, ?_⟩
      conv => whnf
      rw [nat_wrap (by omega)]
      exact ⟨k + 1, none, (by refine ⟨rfl, rfl, ?_, ?_⟩ <;> ((repeat' (first | exact trivial | exact rfl | refine And.intro ?_ ?_)) <;> (try ((conv => whnf); first | refine vint ?_ | refine vboo ?_ | refine rint ?_ | refine rrow ?_ | skip)) <;> (try first | omega | (simp; done) | ((repeat rw [flts_closed _ (by assumption)]); exact vws_closed _ (by assumption))))), by omega, by omega⟩
    · have h2 := ltF h2
      obtain rfl : k = ny := by omega
      conv => whnf
      rw [nat_wrap (by omega)]
      exact ⟨i + 1, none, (by refine ⟨rfl, rfl, ?_, ?_⟩ <;> ((repeat' (first | exact trivial | exact rfl | refine And.intro ?_ ?_)) <;> (try ((conv => whnf); first | refine vint ?_ | refine vboo ?_ | refine rint ?_ | refine rrow ?_ | skip)) <;> (try first | omega | (simp; done) | ((repeat rw [flts_closed _ (by assumption)]); exact vws_closed _ (by assumption))))), by omega, by omega⟩
  · have h := ltF h
    obtain rfl : i = nx := by omega
    conv => whnf
    exact ⟨rfl, rfl⟩

theorem functional_spec (x y : Int) (s : List Int) (m : List (List Int)) (hs : s.length = m.length) (hm : m.length ≤ 1000) (h4 : ∀ r, r ∈ m → r.length ≤ 1000) :
    FSpec Try.prog 54 [.ag [.c (.int .i64 (x)), .c (.int .i64 (y)), .t (.ints .i64 s), .t (.rows m)]] (ex (.own 0) [(0, .rows 24 3 true (funG s m))]) := by
  refine fspec tyOk mx Try.func54 rfl (by kernel_rfl) rfl ?_
  conv => whnf
  refine aloopI tyOk mx (fun i : Nat => (⟨42, [(1, .ptr 0 0), (3, .own 1), (11, .t (.rows m)), (12, .c (.int .i64 (m.length))), (13, .c (.int .i64 (i)))], [(0, .cells 27 [.c (.int .i64 (x)), .c (.int .i64 (y)), .t (.ints .i64 s), .t (.rows m)]), (1, .rows 24 3 true ((List.range i).map (fnGRow s m)))], 2⟩ : St)) (fun i => i ≤ m.length) (fun i => m.length - i) 0 (Nat.zero_le _) none (by refine ⟨rfl, rfl, ?_, ?_⟩ <;> ((repeat' (first | exact trivial | exact rfl | refine And.intro ?_ ?_)) <;> (try ((conv => whnf); first | refine vint ?_ | refine vboo ?_ | refine rint ?_ | refine rrow ?_ | skip)) <;> (try first | omega | (simp; done) | ((repeat rw [flts_closed _ (by assumption)]); exact vws_closed _ (by assumption))))) (fun i hi => ?_)
  refine ⟨fun h => ?_, fun h => ?_⟩
  · have h := ltT h
    have h5 := h4 _ (getD_mem (d := []) h)
    conv => whnf
    refine ⟨i, rfl, h, ?_⟩
    conv => whnf
    refine aloopI tyOk mx (fun k : Nat => (⟨42, [(1, .ptr 0 0), (3, .own 1), (4, .c (.int .i64 (i))), (6, .own 2), (11, .t (.rows m)), (12, .c (.int .i64 (m.length))), (13, .c (.int .i64 (i))), (19, .t (.ints .i64 (m.getD i []))), (20, .c (.int .i64 ((m.getD i []).length))), (21, .c (.int .i64 (k)))], [(0, .cells 27 [.c (.int .i64 (x)), .c (.int .i64 (y)), .t (.ints .i64 s), .t (.rows m)]), (1, .rows 24 3 true ((List.range i).map (fnGRow s m))), (2, .ints 3 .i64 (((m.getD i []).take k).map (fun w => W (w * s.getD i 0))))], 3⟩ : St)) (fun k => k ≤ (m.getD i []).length) (fun k => (m.getD i []).length - k) 0 (Nat.zero_le _) none (by refine ⟨rfl, rfl, ?_, ?_⟩ <;> ((repeat' (first | exact trivial | exact rfl | refine And.intro ?_ ?_)) <;> (try ((conv => whnf); first | refine vint ?_ | refine vboo ?_ | refine rint ?_ | refine rrow ?_ | skip)) <;> (try first | omega | (simp; done) | ((repeat rw [flts_closed _ (by assumption)]); exact vws_closed _ (by assumption))))) (fun k hk => ?_)
    refine ⟨fun h2 => ?_, fun h2 => ?_⟩
    · have h2 := ltT h2
      conv => whnf
      refine ⟨k, rfl, h2, ?_⟩
      conv => whnf
      refine ⟨i, rfl, by omega, ?_⟩
      conv => whnf
      refine ⟨by simp [room]; omega, ?_⟩
      conv => whnf
      rw [nat_wrap (by omega)]
      refine ⟨k + 1, none, ?_, by omega, by omega⟩
      (refine ⟨rfl, rfl, ?_, ?_⟩ <;> ((repeat' (first | exact trivial | exact rfl | refine And.intro ?_ ?_)) <;> (try ((conv => whnf); first | refine vint ?_ | refine vboo ?_ | refine rint ?_ | refine rrow ?_ | skip)) <;> (try first | omega | (simp; done) | ((repeat rw [flts_closed _ (by assumption)]); exact vws_closed _ (by assumption)))))
      rw [List.take_succ_eq_append_getElem h2, List.map_append, getD_lt h2]
      rfl
    · have h2 := ltF h2
      obtain rfl : k = (m.getD i []).length := by omega
      conv => whnf
      refine ⟨by simp [room]; omega, ?_⟩
      conv => whnf
      rw [nat_wrap (by omega)]
      refine ⟨i + 1, none, ?_, by omega, by omega⟩
      (refine ⟨rfl, rfl, ?_, ?_⟩ <;> ((repeat' (first | exact trivial | exact rfl | refine And.intro ?_ ?_)) <;> (try ((conv => whnf); first | refine vint ?_ | refine vboo ?_ | refine rint ?_ | refine rrow ?_ | skip)) <;> (try first | omega | (simp; done) | ((repeat rw [flts_closed _ (by assumption)]); exact vws_closed _ (by assumption)))))
      rw [← map_range_succ, fnGRow, List.take_length]
  · have h := ltF h
    obtain rfl : i = m.length := by omega
    conv => whnf
    exact ⟨rfl, rfl⟩


theorem score_spec (nx ny : Nat) (s : List Int) (m : List (List Int)) (p : List Int) (hx : nx ≤ 3) (hy : ny ≤ 3) (hs : s.length = nx * ny) (hm : m.length = nx * ny) (h4 : ∀ r, r ∈ m → r.length = 4) (hp : ∀ v, v ∈ p → 0 ≤ v ∧ v ≤ 1) (hl : p.length = nx + ny) :
    FSpec Try.prog 29 [.ag [.c (.int .i64 (nx)), .c (.int .i64 (ny)), .t (.ints .i64 s), .t (.rows m)], .t (.ints .i64 p)] (ex (.c (.int .i64 (scoreTo s m p nx ny nx))) []) := by
  have hn : nx * ny ≤ 3 * 3 := Nat.mul_le_mul hx hy
  have hf : (funG s m).length = nx * ny := by simp [funG, hm]
  have hf4 : ∀ r, r ∈ funG s m → r.length = 4 := fun r hr => by
    obtain ⟨i, hi, rfl⟩ := List.mem_map.1 hr
    rw [fnGRow, List.length_map]
    exact h4 _ (getD_mem (by simpa using hi))
  refine fspec tyOk mx Try.func29 rfl (by kernel_rfl) rfl ?_
  conv => whnf
  refine ADraw.plan tyOk mx (.q 0 (.q 1 (.q 2 (.q 3 (.q 4 (.q 6 (.last 5 (.last 7 (.q 8 (.done))))))))) : Plan) (by kernel_rfl) ?_
  conv => whnf
  refine ACall.useR (functional_spec _ _ s m (by omega) (by omega) (fun r hr => by have := h4 r hr; omega)) ?_
  conv => whnf
  refine ACall.useR (playWorth_spec nx ny (funG s m) p hx hy hf hf4 hp hl) ?_
  conv => whnf
  exact ⟨by rw [pw_score s m p nx ny hp hm h4], rfl⟩


def isGP (x y : Int) (s : List Int) (m : List (List Int)) (p : List Int) : Bool := goodG x y s m && (decide ((p.length : Int) = W (x + y)) && rowIn p 0 1)
theorem isGP_spec {x y : Int} {s : List Int} {m : List (List Int)} {p : List Int} (h : isGP x y s m p = true) : ∃ a b : Nat, x = a ∧ y = b ∧ 1 ≤ a ∧ a ≤ 3 ∧ 1 ≤ b ∧ b ≤ 3 ∧ s.length = a * b ∧ m.length = a * b ∧ a * b ≤ 9 ∧
    (∀ v, v ∈ s → 0 ≤ v ∧ v ≤ 99) ∧ 0 < sumF s s.length ∧ (∀ r, r ∈ m → r.length = 4 ∧ ∀ v, v ∈ r → 0 ≤ v ∧ v ≤ 1) ∧ p.length = a + b ∧ (∀ v, v ∈ p → 0 ≤ v ∧ v ≤ 1) := by
  simp only [isGP, Bool.and_eq_true, decide_eq_true_eq, rowIn_iff] at h
  obtain ⟨h1, h2, h3⟩ := h
  obtain ⟨a, b, rfl, rfl, g1, g2, g3, g4, g5, g6, g7, g8, g9, g10⟩ := goodG_spec h1
  have e : W ((a : Int) + b) = ((a + b : Nat) : Int) := natAdd (by omega)
  rw [e] at h2
  exact ⟨a, b, rfl, rfl, g1, g2, g3, g4, g5, g6, g7, g8, g9, g10, by omega, h3⟩

def psF (x y : Int) (s : List Int) (m : List (List Int)) (p : List Int) : Int := if isGP x y s m p then scoreTo s m p x.toNat y.toNat x.toNat else 0

end Go.Proofs.Ytpakfehinfcdoaa
