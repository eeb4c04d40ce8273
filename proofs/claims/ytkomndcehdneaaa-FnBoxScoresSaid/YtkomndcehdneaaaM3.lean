/- Scaled boxes; mixtures of an equal-sum box and noise: reference and program. -/
import Derived.Test.YtkomndcehdneaaaM2
namespace Go.Aw
def timesR (k d : Int) (r : List Int) : List Int := r.map fun v => W (Int.tdiv (W (v * k)) d)
def timesL (m : List (List Int)) (k d : Int) : List (List Int) := m.map (timesR k d)
theorem timesL_len (m : List (List Int)) (k d : Int) : (timesL m k d).length = m.length := by simp [timesL]
/-- rows of which the first have something else in them -/
def partW (g : Int → Int) (M : List (List Int)) (i n : Nat) : List (List Int) :=
  (List.range 4).map fun p => (List.range 4).map fun q => if p < i ∨ (p = i ∧ q < n) then g ((M.getD p []).getD q 0) else (M.getD p []).getD q 0
theorem partW_step (g : Int → Int) (M : List (List Int)) {i n : Nat} (hi : i < 4) (hn : n < 4) :
    (partW g M i n).set i (((partW g M i n).getD i []).set n (g (((partW g M i n).getD i []).getD n 0))) = partW g M i (n + 1) := by
  have h1 : i = 0 ∨ i = 1 ∨ i = 2 ∨ i = 3 := by omega
  have h2 : n = 0 ∨ n = 1 ∨ n = 2 ∨ n = 3 := by omega
  rcases h1 with rfl | rfl | rfl | rfl <;> rcases h2 with rfl | rfl | rfl | rfl <;> rfl
theorem partW_end (g : Int → Int) (M : List (List Int)) {i : Nat} (hi : i < 4) : partW g M i 4 = partW g M (i + 1) 0 := by
  have h1 : i = 0 ∨ i = 1 ∨ i = 2 ∨ i = 3 := by omega
  rcases h1 with rfl | rfl | rfl | rfl <;> rfl
theorem partW_len (g : Int → Int) (M : List (List Int)) (i n : Nat) : (partW g M i n).length = 4 := by simp [partW]
theorem partW_row (g : Int → Int) (M : List (List Int)) {i n p : Nat} (hp : p < 4) : ((partW g M i n).getD p []).length = 4 := by
  rw [partW, range_getD hp]; simp
theorem partW_all (g : Int → Int) (f : Nat → Nat → Nat → Nat → Int) : partW g (boxRows f 2 2) 4 0 = boxRows (fun x y a b => g (f x y a b)) 2 2 := rfl
theorem partW_zero (g : Int → Int) (f : Nat → Nat → Nat → Nat → Int) : partW g (boxRows f 2 2) 0 0 = boxRows f 2 2 := rfl
theorem boxRows_rows (f : Nat → Nat → Nat → Nat → Int) (nx ny : Nat) : ∀ r, r ∈ boxRows f nx ny → r.length = 4 := fun q hq => by
  obtain ⟨i, _, hq⟩ := List.mem_flatMap.1 hq
  obtain ⟨j, _, rfl⟩ := List.mem_map.1 hq
  simp [boxRow]
theorem boxRows_get (f : Nat → Nat → Nat → Nat → Int) {x y a b : Nat} (hx : x < 2) (hy : y < 2) (ha : a < 2) (hb : b < 2) : ((boxRows f 2 2).getD (x * 2 + y) []).getD (2 * a + b) 0 = f x y a b := by
  have h1 : x = 0 ∨ x = 1 := by omega
  have h2 : y = 0 ∨ y = 1 := by omega
  have h3 : a = 0 ∨ a = 1 := by omega
  have h4 : b = 0 ∨ b = 1 := by omega
  rcases h1 with rfl | rfl <;> rcases h2 with rfl | rfl <;> rcases h3 with rfl | rfl <;> rcases h4 with rfl | rfl <;> rfl
theorem tdiv_one (a : Int) : a.tdiv 1 = a := Int.tdiv_one a
theorem WW (a : Int) : W (W a) = W a := by
  have hb : -9223372036854775808 ≤ W a ∧ W a ≤ 9223372036854775807 := by
    show -9223372036854775808 ≤ IntKind.i64.wrap _ ∧ IntKind.i64.wrap _ ≤ _
    rw [IntKind.wrap_i64]; omega
  exact w64 hb.1 hb.2
end Go.Aw
namespace Go.Proofs.Ytkomndcehdneaaa
open Go.Aw
set_option maxRecDepth 100000
set_option maxHeartbeats 4000000

theorem l2Times_spec (x y z : Int) (m : List (List Int)) (k d : Int) (hd : d ≠ 0) (hm : m.length ≤ 1000) (hr : ∀ r, r ∈ m → r.length ≤ 1000) :
    FSpec Try.prog 164 [.ag [.c (.int .i64 (x)), .c (.int .i64 (y)), .c (.int .i64 (z)), .t (.rows m)], .c (.int .i64 (k)), .c (.int .i64 (d))] (ex (.ag [.c (.int .i64 (x)), .c (.int .i64 (y)), .c (.int .i64 (W (Int.tdiv (W (z * k)) d))), .own 0]) [(0, .rows 25 3 true (timesL m k d))]) := by
  refine fspec tyOk mx Try.func164 rfl (by kernel_rfl) rfl ?_
  conv => whnf
  refine ADraw.mid (⟨63, [(1, .c (.int .i64 (k))), (2, .c (.int .i64 (d))), (3, .ptr 0 0), (6, .ptr 1 0), (7, .ptr 3 0)], [(0, .cells 53 [.c (.int .i64 (x)), .c (.int .i64 (y)), .c (.int .i64 (z)), .t (.rows m)]), (1, .cells 53 [.c (.int .i64 (0)), .c (.int .i64 (0)), .c (.int .i64 (0)), .c (.slice none 0 0)]), (2, .rows 25 3 true []), (3, .cells 53 [.c (.int .i64 (x)), .c (.int .i64 (y)), .c (.int .i64 (W (Int.tdiv (W (z * k)) d))), .own 2])], 4⟩ : St) (ADraw.plan tyOk mx (.q 0 (.q 1 (.q 2 (.q 3 (.q 4 (.q 5 (.q 6 (.q 7 (.q 8 (.q 9 (.alt 10 (.q 11 (.last 12 (.last 13 (.done)))) (.last 12 (.last 10 (.q 11 (.last 13 (.done))))))))))))))) : Plan) (by kernel_rfl) ?_) ?_
  · conv => whnf
    repeat' (first | (refine ⟨hd, ?_⟩; conv => whnf) | (refine And.intro ?_ ?_ <;> (conv => whnf)))
    all_goals first
      | (refine ⟨[(0, .row 0), (1, .row 1), (2, .row 2), (3, .row 3)], ?_⟩; (refine ⟨rfl, rfl, ?_, ?_⟩ <;> ((repeat' (first | exact trivial | exact rfl | refine And.intro ?_ ?_)) <;> (try ((conv => whnf); first | refine vint ?_ | refine vboo ?_ | refine rint ?_ | refine rrow ?_ | skip)) <;> (try first | omega | (simp; done) | ((repeat rw [flts_closed _ (by assumption)]); exact vws_closed _ (by assumption))))); done)
      | (refine ⟨[(0, .row 0), (1, .row 1), (2, .row 3), (3, .row 2)], ?_⟩; (refine ⟨rfl, rfl, ?_, ?_⟩ <;> ((repeat' (first | exact trivial | exact rfl | refine And.intro ?_ ?_)) <;> (try ((conv => whnf); first | refine vint ?_ | refine vboo ?_ | refine rint ?_ | refine rrow ?_ | skip)) <;> (try first | omega | (simp; done) | ((repeat rw [flts_closed _ (by assumption)]); exact vws_closed _ (by assumption))))); done)
  conv => whnf
  refine aloopI tyOk mx (fun i : Nat => (⟨63, [(1, .c (.int .i64 (k))), (2, .c (.int .i64 (d))), (3, .ptr 0 0), (6, .ptr 1 0), (7, .ptr 3 0), (8, .c (.int .i64 (i)))], [(0, .cells 53 [.c (.int .i64 (x)), .c (.int .i64 (y)), .c (.int .i64 (z)), .t (.rows m)]), (1, .cells 53 [.c (.int .i64 (0)), .c (.int .i64 (0)), .c (.int .i64 (0)), .c (.slice none 0 0)]), (2, .rows 25 3 true (timesL (m.take i) k d)), (3, .cells 53 [.c (.int .i64 (x)), .c (.int .i64 (y)), .c (.int .i64 (W (Int.tdiv (W (z * k)) d))), .own 2])], 4⟩ : St)) (fun i => i ≤ m.length) (fun i => m.length - i) 0 (Nat.zero_le _) none (by refine ⟨rfl, rfl, ?_, ?_⟩ <;> ((repeat' (first | exact trivial | exact rfl | refine And.intro ?_ ?_)) <;> (try ((conv => whnf); first | refine vint ?_ | refine vboo ?_ | refine rint ?_ | refine rrow ?_ | skip)) <;> (try first | omega | (simp; done) | ((repeat rw [flts_closed _ (by assumption)]); exact vws_closed _ (by assumption))))) (fun i hi => ?_)
  have hl : (timesL (m.take i) k d).length = i := by rw [timesL_len, List.length_take]; omega
  refine ⟨fun h => ?_, fun h => ?_⟩
  · have h := ltT h
    have hjc := hr _ (getD_mem (d := []) h)
    conv => whnf
    refine aloopI tyOk mx (fun n : Nat => (⟨63, [(1, .c (.int .i64 (k))), (2, .c (.int .i64 (d))), (3, .ptr 0 0), (6, .ptr 1 0), (7, .ptr 3 0), (8, .c (.int .i64 (i))), (9, .own 4), (10, .c (.int .i64 (n)))], [(0, .cells 53 [.c (.int .i64 (x)), .c (.int .i64 (y)), .c (.int .i64 (z)), .t (.rows m)]), (1, .cells 53 [.c (.int .i64 (0)), .c (.int .i64 (0)), .c (.int .i64 (0)), .c (.slice none 0 0)]), (2, .rows 25 3 true (timesL (m.take i) k d)), (3, .cells 53 [.c (.int .i64 (x)), .c (.int .i64 (y)), .c (.int .i64 (W (Int.tdiv (W (z * k)) d))), .own 2]), (4, .ints 3 .i64 (timesR k d ((m.getD i []).take n)))], 5⟩ : St)) (fun n => n ≤ (m.getD i []).length) (fun n => (m.getD i []).length - n) 0 (Nat.zero_le _) none (by refine ⟨rfl, rfl, ?_, ?_⟩ <;> ((repeat' (first | exact trivial | exact rfl | refine And.intro ?_ ?_)) <;> (try ((conv => whnf); first | refine vint ?_ | refine vboo ?_ | refine rint ?_ | refine rrow ?_ | skip)) <;> (try first | omega | (simp; done) | ((repeat rw [flts_closed _ (by assumption)]); exact vws_closed _ (by assumption))))) (fun n hn => ?_)
    have hl2 : (timesR k d ((m.getD i []).take n)).length = n := by rw [timesR, List.length_map, List.length_take]; omega
    refine ⟨i, rfl, h, fun h2 => ?_, fun h2 => ?_⟩
    · have h2 := ltT h2
      conv => whnf
      refine ⟨i, rfl, h, n, rfl, h2, ?_⟩
      conv => whnf
      refine ⟨hd, ?_⟩
      conv => whnf
      refine ⟨by rw [hl2]; simp [room]; omega, ?_⟩
      conv => whnf
      rw [nat_wrap (by omega)]
      refine ⟨n + 1, none, ?_, by omega, by omega⟩
      (refine ⟨rfl, rfl, ?_, ?_⟩ <;> ((repeat' (first | exact trivial | exact rfl | refine And.intro ?_ ?_)) <;> (try ((conv => whnf); first | refine vint ?_ | refine vboo ?_ | refine rint ?_ | refine rrow ?_ | skip)) <;> (try first | omega | (simp; done) | ((repeat rw [flts_closed _ (by assumption)]); exact vws_closed _ (by assumption)))))
      unfold timesR
      rw [List.take_succ_eq_append_getElem h2, List.map_append, getD_lt h2]; rfl
    · have h2 := ltF h2
      obtain rfl : n = (m.getD i []).length := by omega
      conv => whnf
      refine ⟨by rw [hl]; simp [room]; omega, ?_⟩
      conv => whnf
      rw [nat_wrap (by omega)]
      refine ⟨i + 1, none, ?_, by omega, by omega⟩
      (refine ⟨rfl, rfl, ?_, ?_⟩ <;> ((repeat' (first | exact trivial | exact rfl | refine And.intro ?_ ?_)) <;> (try ((conv => whnf); first | refine vint ?_ | refine vboo ?_ | refine rint ?_ | refine rrow ?_ | skip)) <;> (try first | omega | (simp; done) | ((repeat rw [flts_closed _ (by assumption)]); exact vws_closed _ (by assumption)))))
      unfold timesL
      rw [List.take_succ_eq_append_getElem h, List.map_append, List.take_length, getD_lt h]; rfl
  · have h := ltF h
    obtain rfl : i = m.length := by omega
    conv => whnf
    exact ⟨rfl, by rw [List.take_length]⟩

def nsNum (k sh no : Int) (x y a b : Nat) : Int := W (W (sh * eqNum k x y a b) + no)
def nsM (k sh no : Int) : List (List Int) := boxRows (nsNum k sh no) 2 2
def nsW (sh no : Int) : Int := W (W (2 * sh) + W (4 * no))
def nsIn (k sh no : Int) : Bool := inR k 0 7 && inR sh 0 1000 && inR no 0 1000
def nsOk (k sh no : Int) : Bool := nsIn k sh no && goodB 2 2 (nsW sh no) (nsM k sh no)
def nsR (k sh no : Int) : List (List Int) := if nsOk k sh no then nsM k sh no else []
theorem nsM_sz (k sh no : Int) : SzM (nsM k sh no) := by
  have h1 : (nsM k sh no).length = 4 := boxRows_len _ 2 2
  have h2 := tot_le_mul (m := nsM k sh no) (n := 4) (fun q hq => by rw [boxRows_rows _ _ _ q hq]; omega)
  unfold SzM; omega

theorem nsNum_spec (k sh no : Int) (x y a b : Nat) (hx : x < 2) (hy : y < 2) (ha : a < 2) (hb : b < 2) :
    FSpec Try.prog 221 [.c (.int .i64 (x)), .c (.int .i64 (y)), .c (.int .i64 (a)), .c (.int .i64 (b)), .rp [.c (.int .i64 (sh))] 0, .rp [.c (.int .i64 (2)), .c (.int .i64 (2)), .c (.int .i64 (2)), .t (.rows (equalM k))] 0, .rp [.c (.int .i64 (no))] 0] (ex (.c (.int .i64 (nsNum k sh no x y a b))) []) := by
  have hl : (equalM k).length = 4 := boxRows_len _ 2 2
  have hr := boxRows_rows (eqNum k) 2 2 _ (getD_mem (d := []) (show x * 2 + y < (equalM k).length by omega))
  refine fspec tyOk mx Try.func221 rfl (by kernel_rfl) rfl ?_
  conv => whnf
  refine ADraw.plan tyOk mx (.q 0 (.q 1 (.q 2 (.q 3 (.q 4 (.q 5 (.q 8 (.last 6 (.q 7 (.q 9 (.q 10 (.done))))))))))) : Plan) (by kernel_rfl) ?_
  conv => whnf
  refine ACall.useR (at_spec 2 2 x y a b 2 (equalM k) (by omega) (by omega) (by show 2 * a + b < ((boxRows (eqNum k) 2 2).getD (x * 2 + y) []).length; rw [hr]; omega) (by omega)) ?_
  conv => whnf
  refine ⟨?_, rfl⟩
  rw [equalM, boxRows_get _ hx hy ha hb]; rfl

theorem NoisySum_i (k : Int) (_hk : InR k) (sh : Int) (_hs : InR sh) (no : Int) (_hn : InR no) : FSpec Try.prog 106 [.c (.int .i64 (k)), .c (.int .i64 (sh)), .c (.int .i64 (no))] (ex (.tu [.ag [.c (.int .i64 (if nsOk k sh no then 2 else 0)), .c (.int .i64 (if nsOk k sh no then 2 else 0)), .c (.int .i64 (if nsOk k sh no then nsW sh no else 0)), .own 0], .c (.bool (nsOk k sh no))]) [(0, .rows 25 3 true (nsR k sh no))]) := by
  refine view_box ?_
  refine fspec tyOk mx Try.func106 rfl (by kernel_rfl) rfl ?_
  conv => whnf
  refine ACall.use (within_spec _ _ _) ?_
  conv => whnf
  refine ⟨fun h1 => ?_, fun h1 => ?_⟩
  · have h1 : inR k 0 7 = true := by simpa using h1
    conv => whnf
    refine ACall.use (within_spec _ _ _) ?_
    conv => whnf
    refine ⟨fun h2 => ?_, fun h2 => ?_⟩
    · have h2 : inR sh 0 1000 = true := by simpa using h2
      conv => whnf
      refine ACall.use (within_spec _ _ _) ?_
      conv => whnf
      refine ⟨fun h3 => ?_, fun h3 => ?_⟩
      · have h3 : inR no 0 1000 = false := by simpa using h3
        have e : nsOk k sh no = false := by rw [nsOk, nsIn, h3]; simp
        conv => whnf
        exact .inl ⟨e, rfl, rfl⟩
      · have h3 : inR no 0 1000 = true := by simpa using h3
        have e : nsIn k sh no = true := by rw [nsIn, h1, h2, h3]; rfl
        conv => whnf
        refine ACall.use (equalSum_spec k) ?_
        conv => whnf
        refine ACall.use (newBox_spec 2 2 (nsW sh no) _ [.rp [.c (.int .i64 (sh))] 0, .rp [.c (.int .i64 (2)), .c (.int .i64 (2)), .c (.int .i64 (2)), .t (.rows (equalM k))] 0, .rp [.c (.int .i64 (no))] 0] (nsNum k sh no) (by omega) (by omega) (fun _ _ => rfl) rfl (fun i k' a b hi hk ha hb => nsNum_spec k sh no i k' a b hi hk ha hb)) ?_
        conv => whnf
        refine ACall.use (IsBox_spec 2 2 (nsW sh no) (nsM k sh no) (nsM_sz k sh no)) ?_
        conv => whnf
        refine ⟨fun h4 => ?_, fun h4 => ?_⟩
        · have h4 : goodB 2 2 (nsW sh no) (nsM k sh no) = false := by simpa using h4
          have e2 : nsOk k sh no = false := by rw [nsOk, h4, Bool.and_false]
          conv => whnf
          exact .inl ⟨e2, rfl, rfl⟩
        · have h4 : goodB 2 2 (nsW sh no) (nsM k sh no) = true := by simpa using h4
          have e2 : nsOk k sh no = true := by rw [nsOk, e, h4]; rfl
          conv => whnf
          exact .inr ⟨e2, rfl, rfl⟩
    · have h2 : inR sh 0 1000 = false := by simpa using h2
      have e : nsOk k sh no = false := by rw [nsOk, nsIn, h2]; simp
      (repeat (conv => whnf); (first | refine ⟨fun h => absurd h (by decide), fun _ => ?_⟩ | refine ⟨fun _ => ?_, fun h => absurd h (by decide)⟩)); conv => whnf
      exact .inl ⟨e, rfl, rfl⟩
  · have h1 : inR k 0 7 = false := by simpa using h1
    have e : nsOk k sh no = false := by rw [nsOk, nsIn, h1]; simp
    (repeat (conv => whnf); (first | refine ⟨fun h => absurd h (by decide), fun _ => ?_⟩ | refine ⟨fun _ => ?_, fun h => absurd h (by decide)⟩)); conv => whnf
    exact .inl ⟨e, rfl, rfl⟩
theorem l6Kind_spec (k : Int) : FSpec Try.prog 191 [.c (.int .i64 (k))] (ex (.c (.bool (inR k 0 7))) []) := by
  refine fspec tyOk mx Try.func191 rfl (by kernel_rfl) rfl ?_
  conv => whnf
  refine ACall.use (l1In_spec _ _ _) ?_
  conv => whnf
  exact ⟨rfl, rfl⟩
def tmNum (k sh : Int) (x y a b : Nat) : Int := W (Int.tdiv (W (eqNum k x y a b * sh)) 1)
theorem times_eq (k sh : Int) : timesL (equalM k) sh 1 = boxRows (tmNum k sh) 2 2 := rfl
theorem ns_end (k sh no : Int) : partW (fun v => W (v + no)) (timesL (equalM k) sh 1) 4 0 = nsM k sh no := by
  rw [times_eq, partW_all]
  unfold nsM
  congr 1
  funext x y a b
  unfold nsNum tmNum
  rw [tdiv_one, WW, Int.mul_comm]

theorem NoisySum_s (k : Int) (_hk : InR k) (sh : Int) (_hs : InR sh) (no : Int) (_hn : InR no) : FSpec Try.prog 107 [.c (.int .i64 (k)), .c (.int .i64 (sh)), .c (.int .i64 (no))] (ex (.tu [.ag [.c (.int .i64 (if nsOk k sh no then 2 else 0)), .c (.int .i64 (if nsOk k sh no then 2 else 0)), .c (.int .i64 (if nsOk k sh no then nsW sh no else 0)), .own 0], .c (.bool (nsOk k sh no))]) [(0, .rows 25 3 true (nsR k sh no))]) := by
  refine view_box ?_
  refine fspec tyOk mx Try.func107 rfl (by kernel_rfl) rfl ?_
  conv => whnf
  refine ACall.use (l6Kind_spec _) ?_
  conv => whnf
  refine ⟨fun h1 => ?_, fun h1 => ?_⟩
  · have h1 : inR k 0 7 = true := by simpa using h1
    conv => whnf
    refine ACall.use (l1In_spec _ _ _) ?_
    conv => whnf
    refine ⟨fun h2 => ?_, fun h2 => ?_⟩
    · have h2 : inR sh 0 1000 = true := by simpa using h2
      conv => whnf
      refine ACall.use (l1In_spec _ _ _) ?_
      conv => whnf
      refine ⟨fun h3 => ?_, fun h3 => ?_⟩
      · have h3 : inR no 0 1000 = true := by simpa using h3
        have e : nsIn k sh no = true := by rw [nsIn, h1, h2, h3]; rfl
        have k1 := inR_iff.1 h1
        have k2 := inR_iff.1 h2
        have k3 := inR_iff.1 h3
        conv => whnf
        refine ⟨fun h4 => ?_, fun h4 => ?_⟩
        · have h4 : W (sh + no) = 0 := by simpa using h4
          rw [show W (sh + no) = sh + no from w64 (by omega) (by omega)] at h4
          have e2 : nsOk k sh no = false := by
            have : sh = 0 := by omega
            have : no = 0 := by omega
            subst_vars
            rw [nsOk, goodB, show inR (nsW 0 0) 1 1000 = false from rfl]; simp
          conv => whnf
          exact .inl ⟨e2, rfl, rfl⟩
        · obtain ⟨kn, rfl⟩ : ∃ n : Nat, k = n := ⟨k.toNat, by omega⟩
          have hlen : (equalM kn).length = 4 := boxRows_len _ 2 2
          have hrw := boxRows_rows (eqNum kn) 2 2
          have ew : W (Int.tdiv (W (2 * sh)) 1) = W (2 * sh) := by rw [tdiv_one, WW]
          conv => whnf
          refine ACall.use (l6Sum_spec kn (by omega)) ?_
          conv => whnf
          refine ACall.use (l2Times_spec 2 2 2 (equalM kn) sh 1 (by decide) (by omega) (fun r hr => by rw [hrw r hr]; omega)) ?_
          rw [ew]
          conv => whnf
          refine aloopI tyOk mx (fun i : Nat => (⟨73, [(2, .c (.int .i64 (no))), (6, .ptr 0 0), (8, .ptr 3 0), (9, .c (.int .i64 (i)))], [(0, .cells 53 [.c (.int .i64 (0)), .c (.int .i64 (0)), .c (.int .i64 (0)), .c (.slice none 0 0)]), (2, .rows 25 3 true (partW (fun v => W (v + no)) (timesL (equalM kn) sh 1) i 0)), (3, .cells 53 [.c (.int .i64 (2)), .c (.int .i64 (2)), .c (.int .i64 (nsW sh no)), .own 2])], 4⟩ : St)) (fun i => i ≤ 4) (fun i => 4 - i) 0 (Nat.zero_le _) none (by refine ⟨rfl, rfl, ?_, ?_⟩ <;> ((repeat' (first | exact trivial | exact rfl | refine And.intro ?_ ?_)) <;> (try ((conv => whnf); first | refine vint ?_ | refine vboo ?_ | refine rint ?_ | refine rrow ?_ | skip)) <;> (try first | omega | (simp; done) | ((repeat rw [flts_closed _ (by assumption)]); exact vws_closed _ (by assumption))))) (fun i hi => ?_)
          have hl := partW_len (fun v => W (v + no)) (timesL (equalM kn) sh 1) i 0
          refine ⟨fun h => ?_, fun h => ?_⟩
          · have h : i < 4 := by have := ltT h; omega
            conv => whnf
            refine aloopI tyOk mx (fun n : Nat => (⟨73, [(2, .c (.int .i64 (no))), (6, .ptr 0 0), (8, .ptr 3 0), (9, .c (.int .i64 (i))), (10, .c (.int .i64 (n)))], [(0, .cells 53 [.c (.int .i64 (0)), .c (.int .i64 (0)), .c (.int .i64 (0)), .c (.slice none 0 0)]), (2, .rows 25 3 true (partW (fun v => W (v + no)) (timesL (equalM kn) sh 1) i n)), (3, .cells 53 [.c (.int .i64 (2)), .c (.int .i64 (2)), .c (.int .i64 (nsW sh no)), .own 2])], 4⟩ : St)) (fun n => n ≤ 4) (fun n => 4 - n) 0 (Nat.zero_le _) none (by refine ⟨rfl, rfl, ?_, ?_⟩ <;> ((repeat' (first | exact trivial | exact rfl | refine And.intro ?_ ?_)) <;> (try ((conv => whnf); first | refine vint ?_ | refine vboo ?_ | refine rint ?_ | refine rrow ?_ | skip)) <;> (try first | omega | (simp; done) | ((repeat rw [flts_closed _ (by assumption)]); exact vws_closed _ (by assumption))))) (fun n hn => ?_)
            have hl2 := partW_len (fun v => W (v + no)) (timesL (equalM kn) sh 1) i n
            have hr2 := partW_row (fun v => W (v + no)) (timesL (equalM kn) sh 1) (i := i) (n := n) h
            refine ⟨fun h5 => ?_, fun h5 => ?_⟩
            · have h5 : n < 4 := by have := of_decide_eq_true h5; omega
              refine ADraw.plan tyOk mx (.q 0 (.q 1 (.q 2 (.q 3 (.q 4 (.q 5 (.q 6 (.q 7 (.q 8 (.q 9 (.q 10 (.q 11 (.q 12 (.q 13 (.q 14 (.q 15 (.q 16 (.last 17 (.done)))))))))))))))))) : Plan) (by kernel_rfl) ?_
              conv => whnf
              repeat' (first | (refine ⟨i, rfl, by omega, ?_⟩; conv => whnf) | (refine ⟨n, rfl, by omega, ?_⟩; conv => whnf) | (refine And.intro ?_ ?_ <;> (conv => whnf)))
              all_goals
                rw [nat_wrap (by omega)]
                refine ⟨n + 1, none, ?_, by omega, by omega⟩
                (refine ⟨rfl, rfl, ?_, ?_⟩ <;> ((repeat' (first | exact trivial | exact rfl | refine And.intro ?_ ?_)) <;> (try ((conv => whnf); first | refine vint ?_ | refine vboo ?_ | refine rint ?_ | refine rrow ?_ | skip)) <;> (try first | omega | (simp; done) | ((repeat rw [flts_closed _ (by assumption)]); exact vws_closed _ (by assumption)))))
                exact partW_step (fun v => W (v + no)) _ h h5
            · have h5 : ¬ n < 4 := by have := of_decide_eq_false h5; omega
              obtain rfl : n = 4 := by omega
              conv => whnf
              rw [nat_wrap (by omega)]
              refine ⟨i + 1, none, ?_, by omega, by omega⟩
              (refine ⟨rfl, rfl, ?_, ?_⟩ <;> ((repeat' (first | exact trivial | exact rfl | refine And.intro ?_ ?_)) <;> (try ((conv => whnf); first | refine vint ?_ | refine vboo ?_ | refine rint ?_ | refine rrow ?_ | skip)) <;> (try first | omega | (simp; done) | ((repeat rw [flts_closed _ (by assumption)]); exact vws_closed _ (by assumption)))))
              exact partW_end _ _ h
          · have h : ¬ i < 4 := by have := ltF h; omega
            obtain rfl : i = 4 := by omega
            have en := ns_end kn sh no
            dsimp only at en ⊢
            rw [en]
            conv => whnf
            refine ACallS.inline tyOk mx Try.func171 rfl (by kernel_rfl) rfl ?_
            conv => whnf
            refine ACall.use (l2Box_spec 2 2 (nsW sh no) (nsM kn sh no) (nsM_sz kn sh no)) ?_
            conv => whnf
            refine ⟨fun h4 => ?_, fun h4 => ?_⟩
            · have h4 : goodB 2 2 (nsW sh no) (nsM kn sh no) = false := by simpa using h4
              have e2 : nsOk kn sh no = false := by rw [nsOk, h4, Bool.and_false]
              conv => whnf
              refine ⟨rfl, ?_⟩
              conv => whnf
              exact .inl ⟨e2, rfl, rfl⟩
            · have h4 : goodB 2 2 (nsW sh no) (nsM kn sh no) = true := by simpa using h4
              have e2 : nsOk kn sh no = true := by rw [nsOk, e, h4]; rfl
              conv => whnf
              refine ⟨rfl, ?_⟩
              conv => whnf
              exact .inr ⟨e2, rfl, rfl⟩
      · have h3 : inR no 0 1000 = false := by simpa using h3
        have e : nsOk k sh no = false := by rw [nsOk, nsIn, h3]; simp
        (repeat (conv => whnf); (first | refine ⟨fun h => absurd h (by decide), fun _ => ?_⟩ | refine ⟨fun _ => ?_, fun h => absurd h (by decide)⟩)); conv => whnf
        exact .inl ⟨e, rfl, rfl⟩
    · have h2 : inR sh 0 1000 = false := by simpa using h2
      have e : nsOk k sh no = false := by rw [nsOk, nsIn, h2]; simp
      (repeat (conv => whnf); (first | refine ⟨fun h => absurd h (by decide), fun _ => ?_⟩ | refine ⟨fun _ => ?_, fun h => absurd h (by decide)⟩)); conv => whnf
      exact .inl ⟨e, rfl, rfl⟩
  · have h1 : inR k 0 7 = false := by simpa using h1
    have e : nsOk k sh no = false := by rw [nsOk, nsIn, h1]; simp
    (repeat (conv => whnf); (first | refine ⟨fun h => absurd h (by decide), fun _ => ?_⟩ | refine ⟨fun _ => ?_, fun h => absurd h (by decide)⟩)); conv => whnf
    exact .inl ⟨e, rfl, rfl⟩
theorem NoisySum_bd (k : Int) (_hk : InR k) (sh : Int) (_hs : InR sh) (no : Int) (_hn : InR no) : (nsR k sh no).length ≤ 1048576 ∧ tot (nsR k sh no) ≤ 1048576 := by
  unfold nsR
  split
  · have := (nsM_sz k sh no).all
    omega
  · simp [tot]
end Go.Proofs.Ytkomndcehdneaaa
/- Parts of quiet boxes; even boxes: reference and program. -/
namespace Go.Proofs.Ytkomndcehdneaaa
open Go.Aw
set_option maxRecDepth 100000
set_option maxHeartbeats 4000000
def esBest (m : List (List Int)) : Nat := bIx (fun i => (esL m).getD i 0) 7
def partN (z s : Int) : Int := W (Int.tdiv (if W (s - W (2 * z)) > 0 then W (s - W (2 * z)) else 0) 2)
theorem esL_len (m : List (List Int)) : (esL m).length = 8 := by simp [esL]

theorem l1Mst_spec (a b : Int) : FSpec Try.prog 165 [.c (.int .i64 a), .c (.int .i64 b)] (ex (.c (.int .i64 (if a > b then a else b))) []) := by
  refine fspec tyOk mx Try.func165 rfl (by kernel_rfl) rfl ?_
  conv => whnf
  refine ⟨fun h => ?_, fun h => ?_⟩
  · have h := of_decide_eq_true h
    conv => whnf
    exact ⟨by rw [if_pos h], rfl⟩
  · have h := of_decide_eq_false h
    conv => whnf
    exact ⟨by rw [if_neg h], rfl⟩
theorem l6Part_spec (z : Int) (m : List (List Int)) (hm : m.length = 4) (h4 : ∀ r, r ∈ m → r.length = 4) :
    FSpec Try.prog 186 [.ag [.c (.int .i64 (2)), .c (.int .i64 (2)), .c (.int .i64 (z)), .t (.rows m)]] (ex (.tu [.c (.int .i64 (esBest m)), .c (.int .i64 (partN z ((esL m).getD (esBest m) 0)))]) []) := by
  have hl := esL_len m
  refine fspec tyOk mx Try.func186 rfl (by kernel_rfl) rfl ?_
  conv => whnf
  refine ACall.use (l6Sums_spec z m hm h4) ?_
  conv => whnf
  refine aloopI tyOk mx (fun k : Nat => (⟨36, [(1, .ptr 0 0), (4, .own 1), (5, .c (.int .i64 (bIx (fun i => (esL m).getD i 0) k))), (6, .c (.int .i64 ((k + 1 : Nat))))], [(0, .cells 53 [.c (.int .i64 (2)), .c (.int .i64 (2)), .c (.int .i64 (z)), .t (.rows m)]), (1, .ints 3 .i64 (esL m))], 2⟩ : St)) (fun k => k + 1 ≤ 8) (fun k => 8 - k) 0 (by omega) none (by refine ⟨rfl, rfl, ?_, ?_⟩ <;> ((repeat' (first | exact trivial | exact rfl | refine And.intro ?_ ?_)) <;> (try ((conv => whnf); first | refine vint ?_ | refine vboo ?_ | refine rint ?_ | refine rrow ?_ | skip)) <;> (try first | omega | (simp; done) | ((repeat rw [flts_closed _ (by assumption)]); exact vws_closed _ (by assumption))))) (fun k hk => ?_)
  have hb := bIx_le (fun i => (esL m).getD i 0) k
  refine ⟨fun h => ?_, fun h => ?_⟩
  · have h := ltT h
    refine ADraw.std tyOk mx ⟨by kernel_rfl, k + 1, rfl, h, bIx (fun i => (esL m).getD i 0) k, rfl, by omega, ?_⟩
    conv => whnf
    refine ⟨fun h6 => ?_, fun h6 => ?_⟩
    · have e : bIx (fun i => (esL m).getD i 0) (k + 1) = k + 1 := if_pos (of_decide_eq_true h6)
      conv => whnf
      rw [nat_wrap (by omega)]
      refine ⟨k + 1, none, ?_, by omega, by omega⟩
      dsimp only
      rw [e]
      (refine ⟨rfl, rfl, ?_, ?_⟩ <;> ((repeat' (first | exact trivial | exact rfl | refine And.intro ?_ ?_)) <;> (try ((conv => whnf); first | refine vint ?_ | refine vboo ?_ | refine rint ?_ | refine rrow ?_ | skip)) <;> (try first | omega | (simp; done) | ((repeat rw [flts_closed _ (by assumption)]); exact vws_closed _ (by assumption)))))
    · have e : bIx (fun i => (esL m).getD i 0) (k + 1) = bIx (fun i => (esL m).getD i 0) k := if_neg (of_decide_eq_false h6)
      conv => whnf
      rw [nat_wrap (by omega)]
      refine ⟨k + 1, none, ?_, by omega, by omega⟩
      dsimp only
      rw [e]
      (refine ⟨rfl, rfl, ?_, ?_⟩ <;> ((repeat' (first | exact trivial | exact rfl | refine And.intro ?_ ?_)) <;> (try ((conv => whnf); first | refine vint ?_ | refine vboo ?_ | refine rint ?_ | refine rrow ?_ | skip)) <;> (try first | omega | (simp; done) | ((repeat rw [flts_closed _ (by assumption)]); exact vws_closed _ (by assumption)))))
  · have h := ltF h
    obtain rfl : k = 7 := by omega
    conv => whnf
    refine ADraw.std tyOk mx ⟨by kernel_rfl, esBest m, rfl, by unfold esBest; omega, ?_⟩
    conv => whnf
    refine QCall.use (l1Mst_spec _ _) ?_
    conv => whnf
    refine ⟨by decide, ?_⟩
    conv => whnf
    exact ⟨rfl, rfl⟩
theorem tdiv2 (a : Int) : (0 ≤ a → a.tdiv 2 = a / 2) ∧ (a ≤ 0 → a.tdiv 2 = -((-a) / 2)) := by
  refine ⟨fun h => Int.tdiv_eq_ediv_of_nonneg h, fun h => ?_⟩
  have e : a.tdiv 2 = -((-a).tdiv 2) := by rw [Int.neg_tdiv, Int.neg_neg]
  rw [e, Int.tdiv_eq_ediv_of_nonneg (by omega)]
theorem part_eq (z s : Int) : (if IntKind.i64.wrap (Int.tdiv (IntKind.i64.wrap (s - IntKind.i64.wrap (2 * z))) 2) > 0 then IntKind.i64.wrap (Int.tdiv (IntKind.i64.wrap (s - IntKind.i64.wrap (2 * z))) 2) else 0) = partN z s := by
  unfold partN
  show (if IntKind.i64.wrap (Int.tdiv (W (s - W (2 * z))) 2) > 0 then IntKind.i64.wrap (Int.tdiv (W (s - W (2 * z))) 2) else 0) = _
  have hb : -9223372036854775808 ≤ W (s - W (2 * z)) ∧ W (s - W (2 * z)) ≤ 9223372036854775807 := by
    show -9223372036854775808 ≤ IntKind.i64.wrap _ ∧ IntKind.i64.wrap _ ≤ _
    rw [IntKind.wrap_i64]; omega
  generalize W (s - W (2 * z)) = a at hb ⊢
  obtain ⟨h1, h2⟩ := tdiv2 a
  by_cases h : a > 0
  · have h1 := h1 (by omega)
    have e1 : IntKind.i64.wrap (a.tdiv 2) = a.tdiv 2 := w64 (by omega) (by omega)
    rw [if_pos h, e1]
    show _ = IntKind.i64.wrap (a.tdiv 2)
    rw [e1]
    split <;> omega
  · have h2 := h2 (by omega)
    have e1 : IntKind.i64.wrap (a.tdiv 2) = a.tdiv 2 := w64 (by omega) (by omega)
    rw [if_neg h, e1]
    have : W (Int.tdiv 0 2) = 0 := rfl
    rw [this]
    split <;> omega
theorem part_spec (z : Int) (m : List (List Int)) (hm : m.length = 4) (h4 : ∀ r, r ∈ m → r.length = 4) :
    FSpec Try.prog 182 [.ag [.c (.int .i64 (2)), .c (.int .i64 (2)), .c (.int .i64 (z)), .t (.rows m)]] (ex (.tu [.c (.int .i64 (esBest m)), .c (.int .i64 (partN z ((esL m).getD (esBest m) 0)))]) []) := by
  have hl := esL_len m
  refine fspec tyOk mx Try.func182 rfl (by kernel_rfl) rfl ?_
  conv => whnf
  refine ACall.use (eightSums_spec z m hm h4) ?_
  conv => whnf
  refine aloopI tyOk mx (fun k : Nat => match k with
    | 0 => (⟨36, [(1, .ptr 0 0), (4, .c (.int .i64 ((0 : Nat)))), (5, .own 1), (10, .own 1), (11, .c (.int .i64 ((esL m).length))), (12, .c (.int .i64 ((0 : Nat))))], [(0, .cells 53 [.c (.int .i64 (2)), .c (.int .i64 (2)), .c (.int .i64 (z)), .t (.rows m)]), (1, .ints 3 .i64 (esL m))], 2⟩ : St)
    | k + 1 => (⟨36, [(1, .ptr 0 0), (4, .c (.int .i64 (bIx (fun i => (esL m).getD i 0) k))), (5, .own 1), (10, .own 1), (11, .c (.int .i64 ((esL m).length))), (12, .c (.int .i64 ((k + 1 : Nat))))], [(0, .cells 53 [.c (.int .i64 (2)), .c (.int .i64 (2)), .c (.int .i64 (z)), .t (.rows m)]), (1, .ints 3 .i64 (esL m))], 2⟩ : St)) (fun k => k ≤ 8) (fun k => 8 - k) 0 (by omega) none (by refine ⟨rfl, rfl, ?_, ?_⟩ <;> ((repeat' (first | exact trivial | exact rfl | refine And.intro ?_ ?_)) <;> (try ((conv => whnf); first | refine vint ?_ | refine vboo ?_ | refine rint ?_ | refine rrow ?_ | skip)) <;> (try first | omega | (simp; done) | ((repeat rw [flts_closed _ (by assumption)]); exact vws_closed _ (by assumption))))) (fun k hk => ?_)
  match k, hk with
  | 0, hk =>
    refine ⟨fun h => ?_, fun h => ?_⟩
    · conv => whnf
      refine ⟨0, rfl, by omega, ?_⟩
      conv => whnf
      refine ⟨0, rfl, by omega, ?_⟩
      conv => whnf
      refine ⟨fun h6 => ?_, fun h6 => ?_⟩
      · have := of_decide_eq_true h6
        omega
      · conv => whnf
        rw [nat_wrap (by omega)]
        refine ⟨1, none, ?_, by omega, by omega⟩
        (refine ⟨rfl, rfl, ?_, ?_⟩ <;> ((repeat' (first | exact trivial | exact rfl | refine And.intro ?_ ?_)) <;> (try ((conv => whnf); first | refine vint ?_ | refine vboo ?_ | refine rint ?_ | refine rrow ?_ | skip)) <;> (try first | omega | (simp; done) | ((repeat rw [flts_closed _ (by assumption)]); exact vws_closed _ (by assumption)))))
    · have h := ltF h
      omega
  | k + 1, hk =>
    have hb := bIx_le (fun i => (esL m).getD i 0) k
    refine ⟨fun h => ?_, fun h => ?_⟩
    · have h := ltT h
      conv => whnf
      refine ⟨k + 1, rfl, h, ?_⟩
      conv => whnf
      refine ⟨bIx (fun i => (esL m).getD i 0) k, rfl, by omega, ?_⟩
      conv => whnf
      refine ⟨fun h6 => ?_, fun h6 => ?_⟩
      · have e : bIx (fun i => (esL m).getD i 0) (k + 1) = k + 1 := if_pos (of_decide_eq_true h6)
        conv => whnf
        rw [nat_wrap (by omega)]
        refine ⟨k + 2, none, ?_, by omega, by omega⟩
        dsimp only
        rw [e]
        (refine ⟨rfl, rfl, ?_, ?_⟩ <;> ((repeat' (first | exact trivial | exact rfl | refine And.intro ?_ ?_)) <;> (try ((conv => whnf); first | refine vint ?_ | refine vboo ?_ | refine rint ?_ | refine rrow ?_ | skip)) <;> (try first | omega | (simp; done) | ((repeat rw [flts_closed _ (by assumption)]); exact vws_closed _ (by assumption)))))
      · have e : bIx (fun i => (esL m).getD i 0) (k + 1) = bIx (fun i => (esL m).getD i 0) k := if_neg (of_decide_eq_false h6)
        conv => whnf
        rw [nat_wrap (by omega)]
        refine ⟨k + 2, none, ?_, by omega, by omega⟩
        dsimp only
        rw [e]
        (refine ⟨rfl, rfl, ?_, ?_⟩ <;> ((repeat' (first | exact trivial | exact rfl | refine And.intro ?_ ?_)) <;> (try ((conv => whnf); first | refine vint ?_ | refine vboo ?_ | refine rint ?_ | refine rrow ?_ | skip)) <;> (try first | omega | (simp; done) | ((repeat rw [flts_closed _ (by assumption)]); exact vws_closed _ (by assumption)))))
    · have h := ltF h
      obtain rfl : k = 7 := by omega
      conv => whnf
      refine ADraw.std tyOk mx ⟨by kernel_rfl, esBest m, rfl, by unfold esBest; omega, ?_⟩
      conv => whnf
      refine ⟨by decide, ?_⟩
      conv => whnf
      exact ⟨by rw [← part_eq]; rfl, rfl⟩

def poK (x y z : Int) (m : List (List Int)) : Int := if qpB x y z m then (esBest m : Int) else 0
def poN (x y z : Int) (m : List (List Int)) : Int := if qpB x y z m then partN z ((esL m).getD (esBest m) 0) else 0
theorem PartOf_s (x y z : Int) (m : List (List Int)) (_hx : InR x) (_hy : InR y) (_hz : InR z) (_hm : OkM m) (km : SzM m) :
    FSpec Try.prog 69 [.ag [.c (.int .i64 (x)), .c (.int .i64 (y)), .c (.int .i64 (z)), .t (.rows m)]] (ex (.tu [.c (.int .i64 (poK x y z m)), .c (.int .i64 (poN x y z m)), .c (.bool (qpB x y z m))]) []) := by
  refine fspec tyOk mx Try.func69 rfl (by kernel_rfl) rfl ?_
  conv => whnf
  refine ACall.use (l6Quiet_spec x y z m km) ?_
  conv => whnf
  refine ⟨fun h => ?_, fun h => ?_⟩
  · have h : qpB x y z m = false := by simpa using h
    conv => whnf
    exact ⟨by rw [poK, poN, h]; rfl, rfl⟩
  · have h : qpB x y z m = true := by simpa using h
    have h' := h
    obtain ⟨rfl, rfl, g1, g2, g3, g4⟩ := qpB_spec h
    conv => whnf
    refine ACall.use (l6Part_spec z m g3 (fun r hr => (g4 r hr).1)) ?_
    conv => whnf
    exact ⟨by rw [poK, poN, h']; rfl, rfl⟩
theorem PartOf_i (x y z : Int) (m : List (List Int)) (_hx : InR x) (_hy : InR y) (_hz : InR z) (_hm : OkM m) (km : SzM m) :
    FSpec Try.prog 68 [.ag [.c (.int .i64 (x)), .c (.int .i64 (y)), .c (.int .i64 (z)), .t (.rows m)]] (ex (.tu [.c (.int .i64 (poK x y z m)), .c (.int .i64 (poN x y z m)), .c (.bool (qpB x y z m))]) []) := by
  refine fspec tyOk mx Try.func68 rfl (by kernel_rfl) rfl ?_
  conv => whnf
  refine ACall.use (isQuietPair_spec x y z m km) ?_
  conv => whnf
  refine ⟨fun h => ?_, fun h => ?_⟩
  · have h : qpB x y z m = false := by simpa using h
    conv => whnf
    exact ⟨by rw [poK, poN, h]; rfl, rfl⟩
  · have h : qpB x y z m = true := by simpa using h
    have h' := h
    obtain ⟨rfl, rfl, g1, g2, g3, g4⟩ := qpB_spec h
    conv => whnf
    refine ACall.use (part_spec z m g3 (fun r hr => (g4 r hr).1)) ?_
    conv => whnf
    exact ⟨by rw [poK, poN, h']; rfl, rfl⟩

/-- the sums for the answer 1 -/
def cntL (nx ny : Nat) (m : List (List Int)) : List Int := (List.range nx).map (fun x => one0 (m.getD (x * ny + 0) [])) ++ (List.range ny).map (fun y => one1 (m.getD (0 * ny + y) []))
theorem counts_spec (nx ny : Nat) (z : Int) (m : List (List Int)) (hx : nx ≤ 3) (hy : ny ≤ 3) (hy1 : 1 ≤ ny) (hx1 : 1 ≤ nx) (hm : m.length = nx * ny) (h4 : ∀ r, r ∈ m → r.length = 4) :
    FSpec Try.prog 224 [.ag [.c (.int .i64 (nx)), .c (.int .i64 (ny)), .c (.int .i64 (z)), .t (.rows m)]] (ex (.own 0) [(0, .ints 3 .i64 (cntL nx ny m))]) := by
  have hn : nx * ny ≤ 3 * 3 := Nat.mul_le_mul hx hy
  refine fspec tyOk mx Try.func224 rfl (by kernel_rfl) rfl ?_
  conv => whnf
  refine ACall.use (questions_spec _ _ _ _) ?_
  conv => whnf
  refine aloopI tyOk mx (fun p : Nat => (⟨29, [(1, .ptr 0 0), (3, .own 1), (4, .ptr 2 0), (10, .c (.int .i64 (p)))], [(0, .cells 53 [.c (.int .i64 (nx)), .c (.int .i64 (ny)), .c (.int .i64 (z)), .t (.rows m)]), (1, .ints 3 .i64 (match p with | 0 => [] | 1 => (List.range nx).map (fun x => one0 (m.getD (x * ny + 0) [])) | _ => cntL nx ny m)), (2, .cells 158 [.c (.int .i64 (nx)), .c (.int .i64 (ny))])], 3⟩ : St)) (fun p => p ≤ 2) (fun p => 2 - p) 0 (by omega) none (by refine ⟨rfl, rfl, ?_, ?_⟩ <;> ((repeat' (first | exact trivial | exact rfl | refine And.intro ?_ ?_)) <;> (try ((conv => whnf); first | refine vint ?_ | refine vboo ?_ | refine rint ?_ | refine rrow ?_ | skip)) <;> (try first | omega | (simp; done) | ((repeat rw [flts_closed _ (by assumption)]); exact vws_closed _ (by assumption))))) (fun p hp => ?_)
  refine ⟨fun h => ?_, fun h => ?_⟩
  · have h : p < 2 := by have := of_decide_eq_true h; omega
    have hp2 : p = 0 ∨ p = 1 := by omega
    rcases hp2 with rfl | rfl
    · conv => whnf
      refine ⟨0, rfl, by omega, by simp, ?_⟩
      conv => whnf
      refine aloopI tyOk mx (fun x : Nat => (⟨29, [(1, .ptr 0 0), (3, .own 1), (4, .ptr 2 0), (5, .c (.int .i64 ((0 : Nat)))), (10, .c (.int .i64 ((0 : Nat)))), (15, .c (.int .i64 (nx))), (16, .c (.int .i64 (x)))], [(0, .cells 53 [.c (.int .i64 (nx)), .c (.int .i64 (ny)), .c (.int .i64 (z)), .t (.rows m)]), (1, .ints 3 .i64 ((List.range x).map (fun x => one0 (m.getD (x * ny + 0) [])))), (2, .cells 158 [.c (.int .i64 (nx)), .c (.int .i64 (ny))])], 3⟩ : St)) (fun x => x ≤ nx) (fun x => nx - x) 0 (Nat.zero_le _) none (by refine ⟨rfl, rfl, ?_, ?_⟩ <;> ((repeat' (first | exact trivial | exact rfl | refine And.intro ?_ ?_)) <;> (try ((conv => whnf); first | refine vint ?_ | refine vboo ?_ | refine rint ?_ | refine rrow ?_ | skip)) <;> (try first | omega | (simp; done) | ((repeat rw [flts_closed _ (by assumption)]); exact vws_closed _ (by assumption))))) (fun x hx2 => ?_)
      refine ⟨fun h2 => ?_, fun h2 => ?_⟩
      · have h2 := ltT h2
        have hlt := ix_lt h2 (show 0 < ny by omega)
        conv => whnf
        refine ACall.use (ones0_spec nx ny x 0 z m (by omega) (by omega) h4) ?_
        conv => whnf
        refine ⟨by simp [room]; omega, ?_⟩
        conv => whnf
        rw [nat_wrap (by omega)]
        refine ⟨x + 1, none, ?_, by omega, by omega⟩
        (refine ⟨rfl, rfl, ?_, ?_⟩ <;> ((repeat' (first | exact trivial | exact rfl | refine And.intro ?_ ?_)) <;> (try ((conv => whnf); first | refine vint ?_ | refine vboo ?_ | refine rint ?_ | refine rrow ?_ | skip)) <;> (try first | omega | (simp; done) | ((repeat rw [flts_closed _ (by assumption)]); exact vws_closed _ (by assumption)))))
        rw [← map_range_succ]; rfl
      · have h2 := ltF h2
        obtain rfl : x = nx := by omega
        conv => whnf
        exact ⟨1, none, (by refine ⟨rfl, rfl, ?_, ?_⟩ <;> ((repeat' (first | exact trivial | exact rfl | refine And.intro ?_ ?_)) <;> (try ((conv => whnf); first | refine vint ?_ | refine vboo ?_ | refine rint ?_ | refine rrow ?_ | skip)) <;> (try first | omega | (simp; done) | ((repeat rw [flts_closed _ (by assumption)]); exact vws_closed _ (by assumption))))), by omega, by omega⟩
    · conv => whnf
      refine ⟨1, rfl, by omega, by simp, ?_⟩
      conv => whnf
      refine aloopI tyOk mx (fun y : Nat => (⟨29, [(1, .ptr 0 0), (3, .own 1), (4, .ptr 2 0), (5, .c (.int .i64 ((1 : Nat)))), (10, .c (.int .i64 ((1 : Nat)))), (15, .c (.int .i64 (ny))), (16, .c (.int .i64 (y)))], [(0, .cells 53 [.c (.int .i64 (nx)), .c (.int .i64 (ny)), .c (.int .i64 (z)), .t (.rows m)]), (1, .ints 3 .i64 ((List.range nx).map (fun x => one0 (m.getD (x * ny + 0) [])) ++ (List.range y).map (fun y => one1 (m.getD (0 * ny + y) [])))), (2, .cells 158 [.c (.int .i64 (nx)), .c (.int .i64 (ny))])], 3⟩ : St)) (fun y => y ≤ ny) (fun y => ny - y) 0 (Nat.zero_le _) none (by refine ⟨rfl, rfl, ?_, ?_⟩ <;> ((repeat' (first | exact trivial | exact rfl | refine And.intro ?_ ?_)) <;> (try ((conv => whnf); first | refine vint ?_ | refine vboo ?_ | refine rint ?_ | refine rrow ?_ | skip)) <;> (try first | omega | (simp; done) | ((repeat rw [flts_closed _ (by assumption)]); exact vws_closed _ (by assumption))))) (fun y hy2 => ?_)
      refine ⟨fun h2 => ?_, fun h2 => ?_⟩
      · have h2 := ltT h2
        have hlt := ix_lt (show 0 < nx by omega) h2
        conv => whnf
        refine ACall.use (ones1_spec nx ny y 0 z m (by omega) (by omega) h4) ?_
        conv => whnf
        refine ⟨by simp [room]; omega, ?_⟩
        conv => whnf
        rw [nat_wrap (by omega)]
        refine ⟨y + 1, none, ?_, by omega, by omega⟩
        (refine ⟨rfl, rfl, ?_, ?_⟩ <;> ((repeat' (first | exact trivial | exact rfl | refine And.intro ?_ ?_)) <;> (try ((conv => whnf); first | refine vint ?_ | refine vboo ?_ | refine rint ?_ | refine rrow ?_ | skip)) <;> (try first | omega | (simp; done) | ((repeat rw [flts_closed _ (by assumption)]); exact vws_closed _ (by assumption)))))
        rw [← map_range_succ, ← List.append_assoc]; rfl
      · have h2 := ltF h2
        obtain rfl : y = ny := by omega
        conv => whnf
        exact ⟨2, none, (by refine ⟨rfl, rfl, ?_, ?_⟩ <;> ((repeat' (first | exact trivial | exact rfl | refine And.intro ?_ ?_)) <;> (try ((conv => whnf); first | refine vint ?_ | refine vboo ?_ | refine rint ?_ | refine rrow ?_ | skip)) <;> (try first | omega | (simp; done) | ((repeat rw [flts_closed _ (by assumption)]); exact vws_closed _ (by assumption))))), by omega, by omega⟩
  · have h : ¬ p < 2 := by have := of_decide_eq_false h; omega
    obtain rfl : p = 2 := by omega
    conv => whnf
    exact ⟨rfl, rfl⟩

theorem AnswerCounts_spec (x y z : Int) (m : List (List Int)) (km : SzM m) (hq : qpB x y z m = true) :
    FSpec Try.prog 225 [.ag [.c (.int .i64 (x)), .c (.int .i64 (y)), .c (.int .i64 (z)), .t (.rows m)]] (ex (.tu [.own 0, .c (.bool true)]) [(0, .ints 3 .i64 (cntL 2 2 m))]) := by
  have hq2 := hq
  simp only [qpB, pairB, Bool.and_eq_true] at hq2
  have hg := hq2.1.1
  have hqq := hq2.2
  obtain ⟨rfl, rfl, g1, g2, g3, g4⟩ := qpB_spec hq
  have h4 : ∀ r, r ∈ m → r.length = 4 := fun r hr => (g4 r hr).1
  refine fspec tyOk mx Try.func225 rfl (by kernel_rfl) rfl ?_
  conv => whnf
  refine ACall.use (l2Box_spec _ _ z m km) ?_
  rw [hg]
  conv => whnf
  refine ⟨fun _ => ?_, fun h => absurd h (by decide)⟩
  conv => whnf
  refine ACall.use (l2Quiet_spec 2 2 z m (by omega) (by omega) (by omega) (by omega) g3 h4) ?_
  rw [hqq]
  conv => whnf
  refine ⟨fun h => absurd h (by decide), fun _ => ?_⟩
  conv => whnf
  refine aloopI tyOk mx (fun x : Nat => (⟨44, [(1, .ptr 0 0), (4, .own 1), (5, .c (.int .i64 (x)))], [(0, .cells 53 [.c (.int .i64 (2)), .c (.int .i64 (2)), .c (.int .i64 (z)), .t (.rows m)]), (1, .ints 3 .i64 ((List.range x).map (fun x => one0 (m.getD (x * 2 + 0) []))))], 2⟩ : St)) (fun x => x ≤ 2) (fun x => 2 - x) 0 (by omega) none (by refine ⟨rfl, rfl, ?_, ?_⟩ <;> ((repeat' (first | exact trivial | exact rfl | refine And.intro ?_ ?_)) <;> (try ((conv => whnf); first | refine vint ?_ | refine vboo ?_ | refine rint ?_ | refine rrow ?_ | skip)) <;> (try first | omega | (simp; done) | ((repeat rw [flts_closed _ (by assumption)]); exact vws_closed _ (by assumption))))) (fun x hx => ?_)
  refine ⟨fun h => ?_, fun h => ?_⟩
  · have h : x < 2 := by have := of_decide_eq_true h; omega
    conv => whnf
    refine ACall.use (l2Row_spec 2 2 x 0 z m (by omega) (by omega)) ?_
    conv => whnf
    refine ACall.use (l2One0_spec _ (h4 _ (getD_mem (show x * 2 + 0 < m.length by omega)))) ?_
    conv => whnf
    refine ⟨by simp [room]; omega, ?_⟩
    conv => whnf
    rw [nat_wrap (by omega)]
    refine ⟨x + 1, none, ?_, by omega, by omega⟩
    (refine ⟨rfl, rfl, ?_, ?_⟩ <;> ((repeat' (first | exact trivial | exact rfl | refine And.intro ?_ ?_)) <;> (try ((conv => whnf); first | refine vint ?_ | refine vboo ?_ | refine rint ?_ | refine rrow ?_ | skip)) <;> (try first | omega | (simp; done) | ((repeat rw [flts_closed _ (by assumption)]); exact vws_closed _ (by assumption)))))
    rw [← map_range_succ]; rfl
  · have h : ¬ x < 2 := by have := of_decide_eq_false h; omega
    obtain rfl : x = 2 := by omega
    conv => whnf
    refine aloopI tyOk mx (fun y : Nat => (⟨44, [(1, .ptr 0 0), (4, .own 1), (6, .c (.int .i64 (y)))], [(0, .cells 53 [.c (.int .i64 (2)), .c (.int .i64 (2)), .c (.int .i64 (z)), .t (.rows m)]), (1, .ints 3 .i64 ((List.range 2).map (fun x => one0 (m.getD (x * 2 + 0) [])) ++ (List.range y).map (fun y => one1 (m.getD (0 * 2 + y) []))))], 2⟩ : St)) (fun y => y ≤ 2) (fun y => 2 - y) 0 (by omega) none (by refine ⟨rfl, rfl, ?_, ?_⟩ <;> ((repeat' (first | exact trivial | exact rfl | refine And.intro ?_ ?_)) <;> (try ((conv => whnf); first | refine vint ?_ | refine vboo ?_ | refine rint ?_ | refine rrow ?_ | skip)) <;> (try first | omega | (simp; done) | ((repeat rw [flts_closed _ (by assumption)]); exact vws_closed _ (by assumption))))) (fun y hy => ?_)
    refine ⟨fun h => ?_, fun h => ?_⟩
    · have h : y < 2 := by have := of_decide_eq_true h; omega
      conv => whnf
      refine ACall.use (l2Row_spec 2 2 0 y z m (by omega) (by omega)) ?_
      conv => whnf
      refine ACall.use (l2One1_spec _ (h4 _ (getD_mem (show 0 * 2 + y < m.length by omega)))) ?_
      conv => whnf
      refine ⟨by simp [room]; omega, ?_⟩
      conv => whnf
      rw [nat_wrap (by omega)]
      refine ⟨y + 1, none, ?_, by omega, by omega⟩
      (refine ⟨rfl, rfl, ?_, ?_⟩ <;> ((repeat' (first | exact trivial | exact rfl | refine And.intro ?_ ?_)) <;> (try ((conv => whnf); first | refine vint ?_ | refine vboo ?_ | refine rint ?_ | refine rrow ?_ | skip)) <;> (try first | omega | (simp; done) | ((repeat rw [flts_closed _ (by assumption)]); exact vws_closed _ (by assumption)))))
      rw [List.append_assoc]; exact congrArg _ (map_range_succ (fun y => one1 (m.getD (0 * 2 + y) [])) y)
    · have h : ¬ y < 2 := by have := of_decide_eq_false h; omega
      obtain rfl : y = 2 := by omega
      conv => whnf
      exact ⟨rfl, rfl⟩

def evenC (z : Int) (l : List Int) : Bool := l.all fun v => W (2 * v) == z
def ebV (x y z : Int) (m : List (List Int)) : Bool := qpB x y z m && evenC z (cntL 2 2 m)
theorem cntL_len (nx ny : Nat) (m : List (List Int)) : (cntL nx ny m).length = nx + ny := by simp [cntL]
theorem IsEvenBox_s (x y z : Int) (m : List (List Int)) (_hx : InR x) (_hy : InR y) (_hz : InR z) (_hm : OkM m) (km : SzM m) :
    FSpec Try.prog 113 [.ag [.c (.int .i64 (x)), .c (.int .i64 (y)), .c (.int .i64 (z)), .t (.rows m)]] (ex (.tu [.c (.bool (ebV x y z m)), .c (.bool (qpB x y z m))]) []) := by
  have hl := cntL_len 2 2 m
  refine fspec tyOk mx Try.func113 rfl (by kernel_rfl) rfl ?_
  conv => whnf
  refine ACall.use (l6Quiet_spec x y z m km) ?_
  conv => whnf
  refine ⟨fun h => ?_, fun h => ?_⟩
  · have h : qpB x y z m = false := by simpa using h
    conv => whnf
    exact ⟨by rw [ebV, h]; rfl, rfl⟩
  · have h : qpB x y z m = true := by simpa using h
    have h' := h
    conv => whnf
    refine ACall.use (AnswerCounts_spec x y z m km h) ?_
    conv => whnf
    refine aloopI tyOk mx (fun k : Nat => (⟨29, [(1, .ptr 0 0), (4, .own 1), (6, .c (.int .i64 (k)))], [(0, .cells 53 [.c (.int .i64 (x)), .c (.int .i64 (y)), .c (.int .i64 (z)), .t (.rows m)]), (1, .ints 3 .i64 (cntL 2 2 m))], 2⟩ : St)) (fun k => k ≤ (cntL 2 2 m).length ∧ ((cntL 2 2 m).take k).all (fun v => W (2 * v) == z) = true) (fun k => (cntL 2 2 m).length - k) 0 ⟨Nat.zero_le _, rfl⟩ none (by refine ⟨rfl, rfl, ?_, ?_⟩ <;> ((repeat' (first | exact trivial | exact rfl | refine And.intro ?_ ?_)) <;> (try ((conv => whnf); first | refine vint ?_ | refine vboo ?_ | refine rint ?_ | refine rrow ?_ | skip)) <;> (try first | omega | (simp; done) | ((repeat rw [flts_closed _ (by assumption)]); exact vws_closed _ (by assumption))))) (fun k hI => ?_)
    obtain ⟨hk, hp⟩ := hI
    refine ⟨fun h => ?_, fun h => ?_⟩
    · have h := ltT h
      refine ADraw.std tyOk mx ⟨by kernel_rfl, k, rfl, h, ?_⟩
      conv => whnf
      refine ⟨fun h2 => ?_, fun h2 => ?_⟩
      · have e : ebV x y z m = false := by
          rw [ebV, evenC, all_false (d := 0) h (by rw [beq_eq_false_iff_ne]; exact bne_iff_ne.1 h2), Bool.and_false]
        conv => whnf
        exact ⟨by rw [e, h'], rfl⟩
      · conv => whnf
        rw [nat_wrap (by omega)]
        exact ⟨k + 1, none, (by refine ⟨rfl, rfl, ?_, ?_⟩ <;> ((repeat' (first | exact trivial | exact rfl | refine And.intro ?_ ?_)) <;> (try ((conv => whnf); first | refine vint ?_ | refine vboo ?_ | refine rint ?_ | refine rrow ?_ | skip)) <;> (try first | omega | (simp; done) | ((repeat rw [flts_closed _ (by assumption)]); exact vws_closed _ (by assumption))))), ⟨by omega, all_take_succ (d := 0) h hp (by rw [beq_iff_eq]; exact bne_eq_false_iff_eq.1 h2)⟩, by omega⟩
    · have h := ltF h
      have e : ebV x y z m = true := by rw [ebV, h', evenC, all_end h hp]; rfl
      conv => whnf
      exact ⟨by rw [e, h'], rfl⟩
theorem IsEvenBox_i (x y z : Int) (m : List (List Int)) (_hx : InR x) (_hy : InR y) (_hz : InR z) (_hm : OkM m) (km : SzM m) :
    FSpec Try.prog 112 [.ag [.c (.int .i64 (x)), .c (.int .i64 (y)), .c (.int .i64 (z)), .t (.rows m)]] (ex (.tu [.c (.bool (ebV x y z m)), .c (.bool (qpB x y z m))]) []) := by
  have hl := cntL_len 2 2 m
  refine fspec tyOk mx Try.func112 rfl (by kernel_rfl) rfl ?_
  conv => whnf
  refine ACall.use (isQuietPair_spec x y z m km) ?_
  conv => whnf
  refine ⟨fun h => ?_, fun h => ?_⟩
  · have h : qpB x y z m = false := by simpa using h
    conv => whnf
    exact ⟨by rw [ebV, h]; rfl, rfl⟩
  · have h : qpB x y z m = true := by simpa using h
    have h' := h
    obtain ⟨rfl, rfl, g1, g2, g3, g4⟩ := qpB_spec h
    conv => whnf
    refine ACall.use (counts_spec 2 2 z m (by omega) (by omega) (by omega) (by omega) g3 (fun r hr => (g4 r hr).1)) ?_
    conv => whnf
    refine aloopI tyOk mx (fun k : Nat => (⟨22, [(1, .ptr 0 0), (10, .own 1), (11, .c (.int .i64 ((cntL 2 2 m).length))), (12, .c (.int .i64 (k)))], [(0, .cells 53 [.c (.int .i64 (2)), .c (.int .i64 (2)), .c (.int .i64 (z)), .t (.rows m)]), (1, .ints 3 .i64 (cntL 2 2 m))], 2⟩ : St)) (fun k => k ≤ (cntL 2 2 m).length ∧ ((cntL 2 2 m).take k).all (fun v => W (2 * v) == z) = true) (fun k => (cntL 2 2 m).length - k) 0 ⟨Nat.zero_le _, rfl⟩ none (by refine ⟨rfl, rfl, ?_, ?_⟩ <;> ((repeat' (first | exact trivial | exact rfl | refine And.intro ?_ ?_)) <;> (try ((conv => whnf); first | refine vint ?_ | refine vboo ?_ | refine rint ?_ | refine rrow ?_ | skip)) <;> (try first | omega | (simp; done) | ((repeat rw [flts_closed _ (by assumption)]); exact vws_closed _ (by assumption))))) (fun k hI => ?_)
    obtain ⟨hk, hp⟩ := hI
    refine ⟨fun h => ?_, fun h => ?_⟩
    · have h := ltT h
      conv => whnf
      refine ⟨k, rfl, h, ?_⟩
      conv => whnf
      refine ⟨fun h2 => ?_, fun h2 => ?_⟩
      · have e : ebV 2 2 z m = false := by
          rw [ebV, evenC, all_false (d := 0) h (by rw [beq_eq_false_iff_ne]; exact bne_iff_ne.1 h2), Bool.and_false]
        conv => whnf
        exact ⟨by rw [e, h'], rfl⟩
      · conv => whnf
        rw [nat_wrap (by omega)]
        exact ⟨k + 1, none, (by refine ⟨rfl, rfl, ?_, ?_⟩ <;> ((repeat' (first | exact trivial | exact rfl | refine And.intro ?_ ?_)) <;> (try ((conv => whnf); first | refine vint ?_ | refine vboo ?_ | refine rint ?_ | refine rrow ?_ | skip)) <;> (try first | omega | (simp; done) | ((repeat rw [flts_closed _ (by assumption)]); exact vws_closed _ (by assumption))))), ⟨by omega, all_take_succ (d := 0) h hp (by rw [beq_iff_eq]; exact bne_eq_false_iff_eq.1 h2)⟩, by omega⟩
    · have h := ltF h
      have e : ebV 2 2 z m = true := by rw [ebV, h', evenC, all_end h hp]; rfl
      conv => whnf
      exact ⟨by rw [e, h'], rfl⟩
end Go.Proofs.Ytkomndcehdneaaa
/- Rests of quiet boxes: reference and program. -/
namespace Go.Aw
def partF (T B : Nat → Nat → Int) (i n : Nat) : List (List Int) :=
  (List.range 4).map fun p => (List.range 4).map fun q => if p < i ∨ (p = i ∧ q < n) then T p q else B p q
theorem partF_step (T B : Nat → Nat → Int) {i n : Nat} (hi : i < 4) (hn : n < 4) : (partF T B i n).set i (((partF T B i n).getD i []).set n (T i n)) = partF T B i (n + 1) := by
  have h1 : i = 0 ∨ i = 1 ∨ i = 2 ∨ i = 3 := by omega
  have h2 : n = 0 ∨ n = 1 ∨ n = 2 ∨ n = 3 := by omega
  rcases h1 with rfl | rfl | rfl | rfl <;> rcases h2 with rfl | rfl | rfl | rfl <;> rfl
theorem partF_get (T B : Nat → Nat → Int) {i n : Nat} (hi : i < 4) (hn : n < 4) : ((partF T B i n).getD i []).getD n 0 = B i n := by
  have h1 : i = 0 ∨ i = 1 ∨ i = 2 ∨ i = 3 := by omega
  have h2 : n = 0 ∨ n = 1 ∨ n = 2 ∨ n = 3 := by omega
  rcases h1 with rfl | rfl | rfl | rfl <;> rcases h2 with rfl | rfl | rfl | rfl <;> rfl
theorem partF_end (T B : Nat → Nat → Int) {i : Nat} (hi : i < 4) : partF T B i 4 = partF T B (i + 1) 0 := by
  have h1 : i = 0 ∨ i = 1 ∨ i = 2 ∨ i = 3 := by omega
  rcases h1 with rfl | rfl | rfl | rfl <;> rfl
theorem partF_len (T B : Nat → Nat → Int) (i n : Nat) : (partF T B i n).length = 4 := by simp [partF]
theorem partF_row (T B : Nat → Nat → Int) {i n p : Nat} (hp : p < 4) : ((partF T B i n).getD p []).length = 4 := by
  rw [partF, range_getD hp]; simp
theorem mat_rows (f : Nat → Nat → Nat → Nat → Int) : boxRows f 2 2 = (List.range 4).map fun p => (List.range 4).map fun q => f (p / 2) (p % 2) (q / 2) (q % 2) := rfl
theorem mat_get (f : Nat → Nat → Nat → Nat → Int) {p q : Nat} (hp : p < 4) (hq : q < 4) : ((boxRows f 2 2).getD p []).getD q 0 = f (p / 2) (p % 2) (q / 2) (q % 2) := by
  rw [mat_rows, range_getD hp, range_getD hq]
theorem mat_eta {M : List (List Int)} (h : M.length = 4) (hr : ∀ r, r ∈ M → r.length = 4) : ((List.range 4).map fun p => (List.range 4).map fun q => (M.getD p []).getD q 0) = M := by
  refine List.ext_getElem (by simp [h]) fun p h1 h2 => ?_
  have hrow := hr _ (List.getElem_mem h2)
  simp only [List.getElem_map, List.getElem_range]
  refine List.ext_getElem (by simp [hrow]) fun q h3 h4 => ?_
  simp only [List.getElem_map, List.getElem_range]
  simp [List.getD, h2, h4]
theorem mat_congr {F G : Nat → Nat → Int} (h : ∀ p q, p < 4 → q < 4 → F p q = G p q) : ((List.range 4).map fun p => (List.range 4).map fun q => F p q) = (List.range 4).map fun p => (List.range 4).map fun q => G p q := by
  refine List.map_congr_left fun p hp => List.map_congr_left fun q hq => h p q (by simpa using hp) (by simpa using hq)
theorem times_get {M : List (List Int)} (h : M.length = 4) (hr : ∀ r, r ∈ M → r.length = 4) (k d : Int) {p q : Nat} (hp : p < 4) (hq : q < 4) : ((timesL M k d).getD p []).getD q 0 = W (Int.tdiv (W ((M.getD p []).getD q 0 * k)) d) := by
  have hm : M.getD p [] ∈ M := by rw [List.getD_eq_getElem?_getD, List.getElem?_eq_getElem (by omega)]; exact List.getElem_mem _
  rw [timesL, map_getD (d := []) (by omega), timesR, map_getD (d := 0) (by rw [hr _ hm]; omega)]
end Go.Aw
namespace Go.Proofs.Ytkomndcehdneaaa
open Go.Aw
set_option maxRecDepth 100000
set_option maxHeartbeats 4000000

def rsNum (m : List (List Int)) (k : Nat) (N : Int) (x y a b : Nat) : Int := W (W (2 * (m.getD (x * 2 + y) []).getD (2 * a + b) 0) - W (N * eqNum k x y a b))
def rsM (m : List (List Int)) (k : Nat) (N : Int) : List (List Int) := boxRows (rsNum m k N) 2 2
def rsW (z N : Int) : Int := W (W (2 * z) - W (2 * N))
def rsN (z : Int) (m : List (List Int)) : Int := partN z ((esL m).getD (esBest m) 0)
def rsOk (x y z : Int) (m : List (List Int)) : Bool := qpB x y z m && goodB 2 2 (rsW z (rsN z m)) (rsM m (esBest m) (rsN z m))
def rsR (x y z : Int) (m : List (List Int)) : List (List Int) := if rsOk x y z m then rsM m (esBest m) (rsN z m) else []
theorem box_sz (f : Nat → Nat → Nat → Nat → Int) : SzM (boxRows f 2 2) := by
  have h1 : (boxRows f 2 2).length = 4 := boxRows_len _ 2 2
  have h2 := tot_le_mul (m := boxRows f 2 2) (n := 4) (fun q hq => by rw [boxRows_rows _ _ _ q hq]; omega)
  unfold SzM; omega
theorem esBest_lt (m : List (List Int)) : esBest m < 8 := by
  have := bIx_le (fun i => (esL m).getD i 0) 7
  unfold esBest; omega

theorem rsNum_spec (m : List (List Int)) (hm : m.length = 4) (h4 : ∀ r, r ∈ m → r.length = 4) (z : Int) (k : Nat) (N : Int) (x y a b : Nat) (hx : x < 2) (hy : y < 2) (ha : a < 2) (hb : b < 2) :
    FSpec Try.prog 184 [.c (.int .i64 (x)), .c (.int .i64 (y)), .c (.int .i64 (a)), .c (.int .i64 (b)), .rp [.c (.int .i64 (2)), .c (.int .i64 (2)), .c (.int .i64 (z)), .t (.rows m)] 0, .rp [.c (.int .i64 (N))] 0, .rp [.c (.int .i64 (2)), .c (.int .i64 (2)), .c (.int .i64 (2)), .t (.rows (equalM k))] 0] (ex (.c (.int .i64 (rsNum m k N x y a b))) []) := by
  have hl : (equalM k).length = 4 := boxRows_len _ 2 2
  have hr := boxRows_rows (eqNum k) 2 2 _ (getD_mem (d := []) (show x * 2 + y < (equalM k).length by omega))
  have hr2 := h4 _ (getD_mem (d := []) (show x * 2 + y < m.length by omega))
  refine fspec tyOk mx Try.func184 rfl (by kernel_rfl) rfl ?_
  conv => whnf
  refine ADraw.plan tyOk mx (.q 0 (.q 1 (.q 2 (.q 3 (.q 4 (.q 7 (.q 8 (.q 9 (.q 10 (.q 11 (.q 12 (.last 5 (.q 6 (.last 13 (.q 14 (.q 15 (.q 16 (.done))))))))))))))))) : Plan) (by kernel_rfl) ?_
  conv => whnf
  refine ACall.useR (at_spec 2 2 x y a b z m (by omega) (by omega) (by omega) (by omega)) ?_
  conv => whnf
  refine ACall.useR (at_spec 2 2 x y a b 2 (equalM k) (by omega) (by omega) (by show 2 * a + b < ((boxRows (eqNum k) 2 2).getD (x * 2 + y) []).length; rw [hr]; omega) (by omega)) ?_
  conv => whnf
  refine ⟨?_, rfl⟩
  rw [equalM, boxRows_get _ hx hy ha hb]; rfl

theorem RestOf_i (x y z : Int) (m : List (List Int)) (_hx : InR x) (_hy : InR y) (_hz : InR z) (_hm : OkM m) (km : SzM m) :
    FSpec Try.prog 66 [.ag [.c (.int .i64 (x)), .c (.int .i64 (y)), .c (.int .i64 (z)), .t (.rows m)]] (ex (.tu [.ag [.c (.int .i64 (if rsOk x y z m then 2 else 0)), .c (.int .i64 (if rsOk x y z m then 2 else 0)), .c (.int .i64 (if rsOk x y z m then rsW z (rsN z m) else 0)), .own 0], .c (.bool (rsOk x y z m))]) [(0, .rows 25 3 true (rsR x y z m))]) := by
  refine view_box ?_
  refine fspec tyOk mx Try.func66 rfl (by kernel_rfl) rfl ?_
  conv => whnf
  refine ACall.use (isQuietPair_spec x y z m km) ?_
  conv => whnf
  refine ⟨fun h => ?_, fun h => ?_⟩
  · have h : qpB x y z m = false := by simpa using h
    have e : rsOk x y z m = false := by rw [rsOk, h]; rfl
    conv => whnf
    exact .inl ⟨e, rfl, rfl⟩
  · have h : qpB x y z m = true := by simpa using h
    have h' := h
    obtain ⟨rfl, rfl, g1, g2, g3, g4⟩ := qpB_spec h
    have h4 : ∀ r, r ∈ m → r.length = 4 := fun r hr => (g4 r hr).1
    conv => whnf
    refine ACall.use (part_spec z m g3 h4) ?_
    conv => whnf
    refine ACall.use (equalSum_spec (esBest m)) ?_
    conv => whnf
    refine ACall.use (newBox_spec 2 2 (rsW z (rsN z m)) _ [.rp [.c (.int .i64 (2)), .c (.int .i64 (2)), .c (.int .i64 (z)), .t (.rows m)] 0, .rp [.c (.int .i64 (rsN z m))] 0, .rp [.c (.int .i64 (2)), .c (.int .i64 (2)), .c (.int .i64 (2)), .t (.rows (equalM (esBest m)))] 0] (rsNum m (esBest m) (rsN z m)) (by omega) (by omega) (fun _ _ => rfl) rfl (fun i k' a b hi hk ha hb => rsNum_spec m g3 h4 z (esBest m) (rsN z m) i k' a b hi hk ha hb)) ?_
    conv => whnf
    refine ACall.use (IsBox_spec 2 2 (rsW z (rsN z m)) (rsM m (esBest m) (rsN z m)) (box_sz _)) ?_
    conv => whnf
    refine ⟨fun h5 => ?_, fun h5 => ?_⟩
    · have h5 : goodB 2 2 (rsW z (rsN z m)) (rsM m (esBest m) (rsN z m)) = false := by simpa using h5
      have e2 : rsOk 2 2 z m = false := by rw [rsOk, h5, Bool.and_false]
      conv => whnf
      exact .inl ⟨e2, rfl, rfl⟩
    · have h5 : goodB 2 2 (rsW z (rsN z m)) (rsM m (esBest m) (rsN z m)) = true := by simpa using h5
      have e2 : rsOk 2 2 z m = true := by rw [rsOk, h', h5]; rfl
      conv => whnf
      exact .inr ⟨e2, rfl, rfl⟩

def rsB (m : List (List Int)) (p q : Nat) : Int := ((timesL m 2 1).getD p []).getD q 0
def rsT (m : List (List Int)) (k : Nat) (N : Int) (p q : Nat) : Int := W (rsB m p q - W (N * ((equalM k).getD p []).getD q 0))
theorem rs_zero (m : List (List Int)) (hm : m.length = 4) (h4 : ∀ r, r ∈ m → r.length = 4) (k : Nat) (N : Int) : partF (rsT m k N) (rsB m) 0 0 = timesL m 2 1 := by
  have e : partF (rsT m k N) (rsB m) 0 0 = (List.range 4).map fun p => (List.range 4).map fun q => rsB m p q := by
    unfold partF; exact mat_congr fun p q _ _ => if_neg (by omega)
  rw [e]
  exact mat_eta (by rw [timesL_len, hm]) (fun r hr => by
    obtain ⟨c, hc, rfl⟩ := List.mem_map.1 hr
    rw [timesR, List.length_map]; exact h4 c hc)
theorem rs_end (m : List (List Int)) (hm : m.length = 4) (h4 : ∀ r, r ∈ m → r.length = 4) (k : Nat) (N : Int) : partF (rsT m k N) (rsB m) 4 0 = rsM m k N := by
  rw [rsM, mat_rows]
  unfold partF
  refine mat_congr fun p q hp hq => ?_
  rw [if_pos (by omega), rsT, rsB, times_get hm h4 _ _ hp hq, equalM, mat_get _ hp hq, rsNum, tdiv_one, WW, Int.mul_comm]
  rw [show p / 2 * 2 + p % 2 = p by omega, show 2 * (q / 2) + q % 2 = q by omega]

theorem RestOf_s (x y z : Int) (m : List (List Int)) (_hx : InR x) (_hy : InR y) (_hz : InR z) (_hm : OkM m) (km : SzM m) :
    FSpec Try.prog 67 [.ag [.c (.int .i64 (x)), .c (.int .i64 (y)), .c (.int .i64 (z)), .t (.rows m)]] (ex (.tu [.ag [.c (.int .i64 (if rsOk x y z m then 2 else 0)), .c (.int .i64 (if rsOk x y z m then 2 else 0)), .c (.int .i64 (if rsOk x y z m then rsW z (rsN z m) else 0)), .own 0], .c (.bool (rsOk x y z m))]) [(0, .rows 25 3 true (rsR x y z m))]) := by
  refine view_box ?_
  refine fspec tyOk mx Try.func67 rfl (by kernel_rfl) rfl ?_
  conv => whnf
  refine ACall.use (l6Quiet_spec x y z m km) ?_
  conv => whnf
  refine ⟨fun h => ?_, fun h => ?_⟩
  · have h : qpB x y z m = false := by simpa using h
    have e : rsOk x y z m = false := by rw [rsOk, h]; rfl
    conv => whnf
    exact .inl ⟨e, rfl, rfl⟩
  · have h : qpB x y z m = true := by simpa using h
    have h' := h
    obtain ⟨rfl, rfl, g1, g2, g3, g4⟩ := qpB_spec h
    have h4 : ∀ r, r ∈ m → r.length = 4 := fun r hr => (g4 r hr).1
    have hel : (equalM (esBest m)).length = 4 := boxRows_len _ 2 2
    have her := boxRows_rows (eqNum (esBest m)) 2 2
    have ew : W (Int.tdiv (W (z * 2)) 1) = W (2 * z) := by rw [tdiv_one, WW, Int.mul_comm]
    conv => whnf
    refine ACall.use (l6Part_spec z m g3 h4) ?_
    conv => whnf
    refine ACall.use (l2Times_spec 2 2 z m 2 1 (by decide) (by omega) (fun r hr => by rw [h4 r hr]; omega)) ?_
    rw [ew]
    conv => whnf
    refine ACall.use (l6Sum_spec (esBest m) (esBest_lt m)) ?_
    conv => whnf
    refine aloopI tyOk mx (fun i : Nat => (⟨70, [(2, .ptr 1 0), (5, .c (.int .i64 (rsN z m))), (6, .ptr 4 0), (7, .ptr 5 0), (8, .c (.int .i64 (i)))], [(1, .cells 53 [.c (.int .i64 (0)), .c (.int .i64 (0)), .c (.int .i64 (0)), .c (.slice none 0 0)]), (2, .rows 25 3 true (partF (rsT m (esBest m) (rsN z m)) (rsB m) i 0)), (3, .rows 25 3 true (equalM (esBest m))), (4, .cells 53 [.c (.int .i64 (2)), .c (.int .i64 (2)), .c (.int .i64 (rsW z (rsN z m))), .own 2]), (5, .cells 53 [.c (.int .i64 (2)), .c (.int .i64 (2)), .c (.int .i64 (2)), .own 3])], 6⟩ : St)) (fun i => i ≤ 4) (fun i => 4 - i) 0 (Nat.zero_le _) none (by (refine ⟨rfl, rfl, ?_, ?_⟩ <;> ((repeat' (first | exact trivial | exact rfl | refine And.intro ?_ ?_)) <;> (try ((conv => whnf); first | refine vint ?_ | refine vboo ?_ | refine rint ?_ | refine rrow ?_ | skip)) <;> (try first | omega | (simp; done) | ((repeat rw [flts_closed _ (by assumption)]); exact vws_closed _ (by assumption))))); exact (rs_zero m g3 h4 _ _).symm) (fun i hi => ?_)
    have hl := partF_len (rsT m (esBest m) (rsN z m)) (rsB m) i 0
    refine ⟨fun h => ?_, fun h => ?_⟩
    · have h : i < 4 := by have := ltT h; omega
      conv => whnf
      refine aloopI tyOk mx (fun n : Nat => (⟨70, [(2, .ptr 1 0), (5, .c (.int .i64 (rsN z m))), (6, .ptr 4 0), (7, .ptr 5 0), (8, .c (.int .i64 (i))), (9, .c (.int .i64 (n)))], [(1, .cells 53 [.c (.int .i64 (0)), .c (.int .i64 (0)), .c (.int .i64 (0)), .c (.slice none 0 0)]), (2, .rows 25 3 true (partF (rsT m (esBest m) (rsN z m)) (rsB m) i n)), (3, .rows 25 3 true (equalM (esBest m))), (4, .cells 53 [.c (.int .i64 (2)), .c (.int .i64 (2)), .c (.int .i64 (rsW z (rsN z m))), .own 2]), (5, .cells 53 [.c (.int .i64 (2)), .c (.int .i64 (2)), .c (.int .i64 (2)), .own 3])], 6⟩ : St)) (fun n => n ≤ 4) (fun n => 4 - n) 0 (Nat.zero_le _) none (by refine ⟨rfl, rfl, ?_, ?_⟩ <;> ((repeat' (first | exact trivial | exact rfl | refine And.intro ?_ ?_)) <;> (try ((conv => whnf); first | refine vint ?_ | refine vboo ?_ | refine rint ?_ | refine rrow ?_ | skip)) <;> (try first | omega | (simp; done) | ((repeat rw [flts_closed _ (by assumption)]); exact vws_closed _ (by assumption))))) (fun n hn => ?_)
      have hl2 := partF_len (rsT m (esBest m) (rsN z m)) (rsB m) i n
      have hr2 := partF_row (rsT m (esBest m) (rsN z m)) (rsB m) (i := i) (n := n) h
      have her2 := her _ (getD_mem (d := []) (show i < (equalM (esBest m)).length by omega))
      have her3 : ((equalM (esBest m)).getD i []).length = 4 := her2
      refine ⟨fun h5 => ?_, fun h5 => ?_⟩
      · have h5 : n < 4 := by have := of_decide_eq_true h5; omega
        have hg := partF_get (rsT m (esBest m) (rsN z m)) (rsB m) h h5
        refine ADraw.plan tyOk mx (.q 0 (.q 1 (.q 2 (.q 3 (.q 4 (.q 5 (.q 6 (.q 7 (.q 8 (.q 9 (.q 10 (.q 11 (.q 12 (.q 13 (.q 14 (.q 15 (.q 16 (.q 17 (.q 18 (.q 19 (.q 20 (.q 21 (.q 22 (.q 23 (.q 24 (.q 25 (.last 26 (.done))))))))))))))))))))))))))) : Plan) (by kernel_rfl) ?_
        conv => whnf
        repeat' (first | (refine ⟨i, rfl, by omega, ?_⟩; conv => whnf) | (refine ⟨n, rfl, by omega, ?_⟩; conv => whnf) | (refine And.intro ?_ ?_ <;> (conv => whnf)))
        all_goals
          rw [nat_wrap (by omega)]
          refine ⟨n + 1, none, ?_, by omega, by omega⟩
          (refine ⟨rfl, rfl, ?_, ?_⟩ <;> ((repeat' (first | exact trivial | exact rfl | refine And.intro ?_ ?_)) <;> (try ((conv => whnf); first | refine vint ?_ | refine vboo ?_ | refine rint ?_ | refine rrow ?_ | skip)) <;> (try first | omega | (simp; done) | ((repeat rw [flts_closed _ (by assumption)]); exact vws_closed _ (by assumption)))))
          rw [hg]
          exact partF_step _ _ h h5
      · have h5 : ¬ n < 4 := by have := of_decide_eq_false h5; omega
        obtain rfl : n = 4 := by omega
        conv => whnf
        rw [nat_wrap (by omega)]
        refine ⟨i + 1, none, ?_, by omega, by omega⟩
        (refine ⟨rfl, rfl, ?_, ?_⟩ <;> ((repeat' (first | exact trivial | exact rfl | refine And.intro ?_ ?_)) <;> (try ((conv => whnf); first | refine vint ?_ | refine vboo ?_ | refine rint ?_ | refine rrow ?_ | skip)) <;> (try first | omega | (simp; done) | ((repeat rw [flts_closed _ (by assumption)]); exact vws_closed _ (by assumption)))))
        exact partF_end _ _ h
    · have h : ¬ i < 4 := by have := ltF h; omega
      obtain rfl : i = 4 := by omega
      rw [rs_end m g3 h4]
      conv => whnf
      refine ACallS.inline tyOk mx Try.func171 rfl (by kernel_rfl) rfl ?_
      conv => whnf
      refine ACall.use (l2Box_spec 2 2 (rsW z (rsN z m)) (rsM m (esBest m) (rsN z m)) (box_sz _)) ?_
      conv => whnf
      refine ⟨fun h5 => ?_, fun h5 => ?_⟩
      · have h5 : goodB 2 2 (rsW z (rsN z m)) (rsM m (esBest m) (rsN z m)) = false := by simpa using h5
        have e2 : rsOk 2 2 z m = false := by rw [rsOk, h5, Bool.and_false]
        conv => whnf
        refine ⟨rfl, ?_⟩
        conv => whnf
        exact .inl ⟨e2, rfl, rfl⟩
      · have h5 : goodB 2 2 (rsW z (rsN z m)) (rsM m (esBest m) (rsN z m)) = true := by simpa using h5
        have e2 : rsOk 2 2 z m = true := by rw [rsOk, h', h5]; rfl
        conv => whnf
        refine ⟨rfl, ?_⟩
        conv => whnf
        exact .inr ⟨e2, rfl, rfl⟩
theorem RestOf_bd (x y z : Int) (m : List (List Int)) (_hx : InR x) (_hy : InR y) (_hz : InR z) (_hm : OkM m) (_km : SzM m) : (rsR x y z m).length ≤ 1048576 ∧ tot (rsR x y z m) ≤ 1048576 := by
  unfold rsR
  split
  · obtain ⟨a, _, b⟩ := (box_sz (rsNum m (esBest m) (rsN z m))).all
    exact ⟨a, b⟩
  · simp [tot]
end Go.Proofs.Ytkomndcehdneaaa
/- Boxes that are evened out: what both make, and the parts that are walked. -/
namespace Go.Aw
def revN (m : List (List Int)) (x y a b : Nat) : Int := (m.getD (x * 2 + y) []).getD (3 - (2 * a + b)) 0
def revM (m : List (List Int)) : List (List Int) := boxRows (revN m) 2 2
def eoN (m : List (List Int)) (x y a b : Nat) : Int := W ((m.getD (x * 2 + y) []).getD (2 * a + b) 0 + ((revM m).getD (x * 2 + y) []).getD (2 * a + b) 0)
def eoM (m : List (List Int)) : List (List Int) := boxRows (eoN m) 2 2
theorem sum4 (a b c d : Int) (h1 : 0 ≤ a ∧ a ≤ 2000) (h2 : 0 ≤ b ∧ b ≤ 2000) (h3 : 0 ≤ c ∧ c ≤ 2000) (h4 : 0 ≤ d ∧ d ≤ 2000) : sumF [a, b, c, d] 4 = a + b + c + d := by
  show W (W (W (W (0 + a) + b) + c) + d) = _
  have e : ∀ n : Int, 0 ≤ n → n ≤ 1000000 → W n = n := fun n h h' => w64 (by omega) (by omega)
  rw [e (0 + a) (by omega) (by omega), e (0 + a + b) (by omega) (by omega), e (0 + a + b + c) (by omega) (by omega), e (0 + a + b + c + d) (by omega) (by omega)]
  omega
theorem row4 {r : List Int} {z : Int} (hz : z ≤ 1000) (hl : r.length = 4) (hb : ∀ v, v ∈ r → 0 ≤ v ∧ v ≤ z) (hs : sumF r r.length = z) :
    ∃ a b c d : Int, r = [a, b, c, d] ∧ 0 ≤ a ∧ 0 ≤ b ∧ 0 ≤ c ∧ 0 ≤ d ∧ a + b + c + d = z := by
  match r, hl with
  | [a, b, c, d], _ =>
    have h1 := hb a (by simp)
    have h2 := hb b (by simp)
    have h3 := hb c (by simp)
    have h4 := hb d (by simp)
    have := sum4 a b c d (by omega) (by omega) (by omega) (by omega)
    exact ⟨a, b, c, d, rfl, h1.1, h2.1, h3.1, h4.1, by rw [← this]; exact hs⟩
end Go.Aw
namespace Go.Proofs.Ytkomndcehdneaaa
open Go.Aw
set_option maxRecDepth 100000
set_option maxHeartbeats 4000000

theorem rowOk_mk {a b c d z : Int} (ha : 0 ≤ a) (hb : 0 ≤ b) (hc : 0 ≤ c) (hd : 0 ≤ d) (hs : a + b + c + d = z) (hz : z ≤ 1000) : rowOk z [a, b, c, d] = true := by
  have h := sum4 a b c d (by omega) (by omega) (by omega) (by omega)
  unfold rowOk
  rw [show sumF [a, b, c, d] [a, b, c, d].length = a + b + c + d from h, hs]
  have : rowIn [a, b, c, d] 0 z = true := rowIn_iff.2 fun v hv => by
    simp only [List.mem_cons, List.not_mem_nil, or_false] at hv
    rcases hv with rfl | rfl | rfl | rfl <;> omega
  rw [this]; simp
theorem good4 {z : Int} {r0 r1 r2 r3 : List Int} (h1 : 1 ≤ z) (h2 : z ≤ 1000) (k0 : rowOk z r0 = true) (k1 : rowOk z r1 = true) (k2 : rowOk z r2 = true) (k3 : rowOk z r3 = true) : goodB 2 2 z [r0, r1, r2, r3] = true := by
  have hz : inR z 1 1000 = true := inR_iff.2 ⟨h1, h2⟩
  simp [goodB, hz, k0, k1, k2, k3]; rfl
theorem eo_good {x y z : Int} {m : List (List Int)} (h : pairB x y z m = true) : goodB 2 2 z (revM m) = true ∧ (z + z ≤ 1000 → goodB 2 2 (z + z) (eoM m) = true) := by
  obtain ⟨rfl, rfl, g1, g2, g3, g4⟩ := pairB_spec h
  match m, g3 with
  | [r0, r1, r2, r3], _ =>
    have q0 := g4 r0 (by simp)
    have q1 := g4 r1 (by simp)
    have q2 := g4 r2 (by simp)
    have q3 := g4 r3 (by simp)
    obtain ⟨a0, b0, c0, d0, rfl, u0, v0, w0, x0, s0⟩ := row4 g2 q0.1 q0.2.1 q0.2.2
    obtain ⟨a1, b1, c1, d1, rfl, u1, v1, w1, x1, s1⟩ := row4 g2 q1.1 q1.2.1 q1.2.2
    obtain ⟨a2, b2, c2, d2, rfl, u2, v2, w2, x2, s2⟩ := row4 g2 q2.1 q2.2.1 q2.2.2
    obtain ⟨a3, b3, c3, d3, rfl, u3, v3, w3, x3, s3⟩ := row4 g2 q3.1 q3.2.1 q3.2.2
    refine ⟨good4 (r0 := [d0, c0, b0, a0]) (r1 := [d1, c1, b1, a1]) (r2 := [d2, c2, b2, a2]) (r3 := [d3, c3, b3, a3]) g1 g2 (rowOk_mk x0 w0 v0 u0 (by omega) g2) (rowOk_mk x1 w1 v1 u1 (by omega) g2) (rowOk_mk x2 w2 v2 u2 (by omega) g2) (rowOk_mk x3 w3 v3 u3 (by omega) g2), fun hz => ?_⟩
    have e : ∀ n : Int, 0 ≤ n → n ≤ 1000000 → W n = n := fun n h h' => w64 (by omega) (by omega)
    have em : eoM [[a0, b0, c0, d0], [a1, b1, c1, d1], [a2, b2, c2, d2], [a3, b3, c3, d3]] = [[W (a0 + d0), W (b0 + c0), W (c0 + b0), W (d0 + a0)], [W (a1 + d1), W (b1 + c1), W (c1 + b1), W (d1 + a1)], [W (a2 + d2), W (b2 + c2), W (c2 + b2), W (d2 + a2)], [W (a3 + d3), W (b3 + c3), W (c3 + b3), W (d3 + a3)]] := rfl
    rw [em]
    refine good4 (by omega) hz ?_ ?_ ?_ ?_
    · rw [e (a0 + d0) (by omega) (by omega), e (b0 + c0) (by omega) (by omega), e (c0 + b0) (by omega) (by omega), e (d0 + a0) (by omega) (by omega)]
      exact rowOk_mk (by omega) (by omega) (by omega) (by omega) (by omega) hz
    · rw [e (a1 + d1) (by omega) (by omega), e (b1 + c1) (by omega) (by omega), e (c1 + b1) (by omega) (by omega), e (d1 + a1) (by omega) (by omega)]
      exact rowOk_mk (by omega) (by omega) (by omega) (by omega) (by omega) hz
    · rw [e (a2 + d2) (by omega) (by omega), e (b2 + c2) (by omega) (by omega), e (c2 + b2) (by omega) (by omega), e (d2 + a2) (by omega) (by omega)]
      exact rowOk_mk (by omega) (by omega) (by omega) (by omega) (by omega) hz
    · rw [e (a3 + d3) (by omega) (by omega), e (b3 + c3) (by omega) (by omega), e (c3 + b3) (by omega) (by omega), e (d3 + a3) (by omega) (by omega)]
      exact rowOk_mk (by omega) (by omega) (by omega) (by omega) (by omega) hz

theorem xor1 {a x : Nat} (ha : a < 2) (hx : x < 4) : bits .xor .i64 (a : Int) (([1, 1, 1, 1] : List Int).getD x 0) = ((1 - a : Nat) : Int) := by
  have : ∀ a : Nat, a < 2 → ∀ x : Nat, x < 4 → bits .xor .i64 (a : Int) (([1, 1, 1, 1] : List Int).getD x 0) = ((1 - a : Nat) : Int) := by decide +kernel
  exact this a ha x hx

theorem flN_spec (m : List (List Int)) (hm : m.length = 4) (h4 : ∀ r, r ∈ m → r.length = 4) (z : Int) (x y a b : Nat) (hx : x < 2) (hy : y < 2) (ha : a < 2) (hb : b < 2) :
    FSpec Try.prog 253 [.c (.int .i64 (x)), .c (.int .i64 (y)), .c (.int .i64 (a)), .c (.int .i64 (b)), .rp [.c (.int .i64 (2)), .c (.int .i64 (2)), .c (.int .i64 (z)), .t (.rows m)] 0, .rp [.t (.ints .i64 [1, 1, 1, 1])] 0] (ex (.c (.int .i64 (revN m x y a b))) []) := by
  have hr2 := h4 _ (getD_mem (d := []) (show x * 2 + y < m.length by omega))
  have e1 := xor1 (x := x) ha (by omega)
  have e2 := xor1 (x := 2 + y) hb (by omega)
  refine fspec tyOk mx Try.func253 rfl (by kernel_rfl) rfl ?_
  conv => whnf
  refine ADraw.plan tyOk mx (.q 0 (.q 1 (.q 2 (.q 3 (.q 4 (.q 5 (.q 6 (.q 7 (.q 8 (.q 9 (.q 10 (.q 11 (.q 12 (.q 13 (.q 14 (.q 15 (.q 16 (.q 17 (.last 18 (.q 19 (.done)))))))))))))))))))) : Plan) (by kernel_rfl) ?_
  conv => whnf
  refine ⟨x, rfl, (show x < 4 by omega), ?_⟩
  conv => whnf
  refine ⟨2 + y, by rw [show (2 : Int) + (y : Int) = ((2 + y : Nat) : Int) by omega]; exact w64 (by omega) (by omega), (show 2 + y < 4 by omega), ?_⟩
  conv => whnf
  rw [e1, e2]
  refine ACall.useR (at_spec 2 2 x y (1 - a) (1 - b) z m (by omega) (by omega) (by omega) (by omega)) ?_
  conv => whnf
  refine ⟨?_, rfl⟩
  rw [revN, show 3 - (2 * a + b) = 2 * (1 - a) + (1 - b) by omega]

theorem flipped_spec (m : List (List Int)) (hm : m.length = 4) (h4 : ∀ r, r ∈ m → r.length = 4) (z : Int) :
    FSpec Try.prog 222 [.ag [.c (.int .i64 (2)), .c (.int .i64 (2)), .c (.int .i64 (z)), .t (.rows m)], .t (.ints .i64 [1, 1, 1, 1])] (ex (.ag [.c (.int .i64 (2)), .c (.int .i64 (2)), .c (.int .i64 (z)), .own 0]) [(0, .rows 25 3 true (revM m))]) := by
  refine fspec tyOk mx Try.func222 rfl (by kernel_rfl) rfl ?_
  conv => whnf
  refine ACall.use (newBox_spec 2 2 z _ [.rp [.c (.int .i64 (2)), .c (.int .i64 (2)), .c (.int .i64 (z)), .t (.rows m)] 0, .rp [.t (.ints .i64 [1, 1, 1, 1])] 0] (revN m) (by omega) (by omega) (fun _ _ => rfl) rfl (fun i k' a b hi hk ha hb => flN_spec m hm h4 z i k' a b hi hk ha hb)) ?_
  conv => whnf
  exact ⟨rfl, rfl⟩

theorem eoN_spec (m : List (List Int)) (hm : m.length = 4) (h4 : ∀ r, r ∈ m → r.length = 4) (z z' : Int) (x y a b : Nat) (hx : x < 2) (hy : y < 2) (ha : a < 2) (hb : b < 2) :
    FSpec Try.prog 168 [.c (.int .i64 (x)), .c (.int .i64 (y)), .c (.int .i64 (a)), .c (.int .i64 (b)), .rp [.c (.int .i64 (2)), .c (.int .i64 (2)), .c (.int .i64 (z)), .t (.rows m)] 0, .rp [.c (.int .i64 (2)), .c (.int .i64 (2)), .c (.int .i64 (z')), .t (.rows (revM m))] 0] (ex (.c (.int .i64 (eoN m x y a b))) []) := by
  have hl : (revM m).length = 4 := boxRows_len _ 2 2
  have hr := boxRows_rows (revN m) 2 2 _ (getD_mem (d := []) (show x * 2 + y < (revM m).length by omega))
  have hr2 := h4 _ (getD_mem (d := []) (show x * 2 + y < m.length by omega))
  refine fspec tyOk mx Try.func168 rfl (by kernel_rfl) rfl ?_
  conv => whnf
  refine ADraw.plan tyOk mx (.q 0 (.q 1 (.q 2 (.q 3 (.q 4 (.q 6 (.q 7 (.q 8 (.q 9 (.q 10 (.last 5 (.last 11 (.q 12 (.q 13 (.done)))))))))))))) : Plan) (by kernel_rfl) ?_
  conv => whnf
  refine ACall.useR (at_spec 2 2 x y a b z m (by omega) (by omega) (by omega) (by omega)) ?_
  conv => whnf
  refine ACall.useR (at_spec 2 2 x y a b z' (revM m) (by omega) (by omega) (by show 2 * a + b < ((boxRows (revN m) 2 2).getD (x * 2 + y) []).length; rw [hr]; omega) (by omega)) ?_
  conv => whnf
  exact ⟨rfl, rfl⟩

theorem sameQ_spec (z z' : Int) (m m' : List (List Int)) (km : SzM m) (km' : SzM m') (h : goodB 2 2 z m = true) (h' : goodB 2 2 z' m' = true) :
    FSpec Try.prog 166 [.ag [.c (.int .i64 (2)), .c (.int .i64 (2)), .c (.int .i64 (z)), .t (.rows m)], .ag [.c (.int .i64 (2)), .c (.int .i64 (2)), .c (.int .i64 (z')), .t (.rows m')]] (ex (.c (.bool true)) []) := by
  refine fspec tyOk mx Try.func166 rfl (by kernel_rfl) rfl ?_
  conv => whnf
  refine ACall.use (IsBox_spec 2 2 z m km) ?_
  rw [h]
  conv => whnf
  first | refine ⟨fun h => absurd h (by decide), fun _ => ?_⟩ | refine ⟨fun _ => ?_, fun h => absurd h (by decide)⟩
  conv => whnf
  refine ACall.use (IsBox_spec 2 2 z' m' km') ?_
  rw [h']
  conv => whnf
  (repeat (conv => whnf); (first | refine ⟨fun h => absurd h (by decide), fun _ => ?_⟩ | refine ⟨fun _ => ?_, fun h => absurd h (by decide)⟩)); conv => whnf
  exact ⟨rfl, rfl⟩

theorem MixBoxes_no (z : Int) (m : List (List Int)) (km : SzM m) (h : pairB 2 2 z m = true) (hz : 1000 < z + z) :
    FSpec Try.prog 48 [.ag [.c (.int .i64 (2)), .c (.int .i64 (2)), .c (.int .i64 (z)), .t (.rows m)], .ag [.c (.int .i64 (2)), .c (.int .i64 (2)), .c (.int .i64 (z)), .t (.rows (revM m))]] (ex (.tu [.ag [.c (.int .i64 (0)), .c (.int .i64 (0)), .c (.int .i64 (0)), .c (.slice none 0 0)], .c (.bool false)]) []) := by
  obtain ⟨_, _, g1, g2, g3, g4⟩ := pairB_spec h
  have hg : goodB 2 2 z m = true := by simp only [pairB, Bool.and_eq_true] at h; exact h.1
  have ew : IntKind.i64.wrap (z + z) = z + z := w64 (by omega) (by omega)
  refine fspec tyOk mx Try.func48 rfl (by kernel_rfl) rfl ?_
  conv => whnf
  refine ACall.use (sameQ_spec z z m (revM m) km (box_sz _) hg (eo_good h).1) ?_
  conv => whnf
  first | refine ⟨fun h => absurd h (by decide), fun _ => ?_⟩ | refine ⟨fun _ => ?_, fun h => absurd h (by decide)⟩
  conv => whnf
  refine ⟨fun h2 => ?_, fun h2 => ?_⟩
  · conv => whnf
    exact ⟨rfl, rfl⟩
  · have h2 := of_decide_eq_false h2
    rw [ew] at h2
    omega
theorem MixBoxes_ok (z : Int) (m : List (List Int)) (km : SzM m) (h : pairB 2 2 z m = true) (hz : z + z ≤ 1000) :
    FSpec Try.prog 48 [.ag [.c (.int .i64 (2)), .c (.int .i64 (2)), .c (.int .i64 (z)), .t (.rows m)], .ag [.c (.int .i64 (2)), .c (.int .i64 (2)), .c (.int .i64 (z)), .t (.rows (revM m))]] (ex (.tu [.ag [.c (.int .i64 (2)), .c (.int .i64 (2)), .c (.int .i64 (W (z + z))), .own 0], .c (.bool true)]) [(0, .rows 25 3 true (eoM m))]) := by
  obtain ⟨_, _, g1, g2, g3, g4⟩ := pairB_spec h
  have h4 : ∀ r, r ∈ m → r.length = 4 := fun r hr => (g4 r hr).1
  have hg : goodB 2 2 z m = true := by simp only [pairB, Bool.and_eq_true] at h; exact h.1
  have ew : IntKind.i64.wrap (z + z) = z + z := w64 (by omega) (by omega)
  refine fspec tyOk mx Try.func48 rfl (by kernel_rfl) rfl ?_
  conv => whnf
  refine ACall.use (sameQ_spec z z m (revM m) km (box_sz _) hg (eo_good h).1) ?_
  conv => whnf
  first | refine ⟨fun h => absurd h (by decide), fun _ => ?_⟩ | refine ⟨fun _ => ?_, fun h => absurd h (by decide)⟩
  conv => whnf
  refine ⟨fun h2 => ?_, fun h2 => ?_⟩
  · have h2 := of_decide_eq_true h2
    rw [ew] at h2
    omega
  · conv => whnf
    refine ACall.use (newBox_spec 2 2 (W (z + z)) _ [.rp [.c (.int .i64 (2)), .c (.int .i64 (2)), .c (.int .i64 (z)), .t (.rows m)] 0, .rp [.c (.int .i64 (2)), .c (.int .i64 (2)), .c (.int .i64 (z)), .t (.rows (revM m))] 0] (eoN m) (by omega) (by omega) (fun _ _ => rfl) rfl (fun i k' a b hi hk ha hb => eoN_spec m g3 h4 z z i k' a b hi hk ha hb)) ?_
    conv => whnf
    exact ⟨rfl, rfl⟩

def eoOk (x y z : Int) (m : List (List Int)) : Bool := pairB x y z m && decide (z + z ≤ 1000)
def eoR (x y z : Int) (m : List (List Int)) : List (List Int) := if eoOk x y z m then eoM m else []
theorem EvenOut_i (x y z : Int) (m : List (List Int)) (_hx : InR x) (_hy : InR y) (_hz : InR z) (_hm : OkM m) (km : SzM m) :
    FSpec Try.prog 109 [.ag [.c (.int .i64 (x)), .c (.int .i64 (y)), .c (.int .i64 (z)), .t (.rows m)]] (ex (.tu [.ag [.c (.int .i64 (if eoOk x y z m then 2 else 0)), .c (.int .i64 (if eoOk x y z m then 2 else 0)), .c (.int .i64 (if eoOk x y z m then W (z + z) else 0)), .own 0], .c (.bool (eoOk x y z m))]) [(0, .rows 25 3 true (eoR x y z m))]) := by
  refine view_box ?_
  refine fspec tyOk mx Try.func109 rfl (by kernel_rfl) rfl ?_
  conv => whnf
  refine ACall.use (isPair_spec x y z m km) ?_
  conv => whnf
  refine ⟨fun h => ?_, fun h => ?_⟩
  · have h : pairB x y z m = false := by simpa using h
    have e : eoOk x y z m = false := by rw [eoOk, h]; rfl
    conv => whnf
    exact .inl ⟨e, rfl, rfl⟩
  · have h : pairB x y z m = true := by simpa using h
    have h' := h
    obtain ⟨rfl, rfl, g1, g2, g3, g4⟩ := pairB_spec h
    have h4 : ∀ r, r ∈ m → r.length = 4 := fun r hr => (g4 r hr).1
    by_cases hz : z + z ≤ 1000
    · have e : eoOk 2 2 z m = true := by rw [eoOk, h, decide_eq_true hz]; rfl
      conv => whnf
      refine ADraw.plan tyOk mx (.q 0 (.q 1 (.last 2 (.last 3 (.last 4 (.q 5 (.q 6 (.last 7 (.q 8 (.done))))))))) : Plan) (by kernel_rfl) ?_
      conv => whnf
      refine ACall.useR (flipped_spec m g3 h4 z) ?_
      conv => whnf
      refine ACall.useR (MixBoxes_ok z m km h hz) ?_
      conv => whnf
      repeat' (refine And.intro ?_ ?_ <;> (conv => whnf))
      all_goals exact .inr ⟨e, rfl, rfl⟩
    · have e : eoOk 2 2 z m = false := by rw [eoOk, decide_eq_false hz, Bool.and_false]
      conv => whnf
      refine ADraw.plan tyOk mx (.q 0 (.q 1 (.last 2 (.last 3 (.last 4 (.q 5 (.q 6 (.last 7 (.q 8 (.done))))))))) : Plan) (by kernel_rfl) ?_
      conv => whnf
      refine ACall.useR (flipped_spec m g3 h4 z) ?_
      conv => whnf
      refine ACall.useR (MixBoxes_no z m km h (by omega)) ?_
      conv => whnf
      repeat' (refine And.intro ?_ ?_ <;> (conv => whnf))
      all_goals exact .inl ⟨e, rfl, rfl⟩
end Go.Proofs.Ytkomndcehdneaaa
/- Signs of sums, quiet boxes of two questions each, row by row. -/
namespace Go.Proofs.Ytkomndcehdneaaa
open Go.Aw
set_option maxRecDepth 100000
set_option maxHeartbeats 4000000

theorem wS {n : Int} (h : -1000000000000 ≤ n) (h' : n ≤ 1000000000000) : W n = n := w64 (by omega) (by omega)
/-- the sign of a row in a sum -/
def sg (k x y : Nat) : Int := W (1 - W (2 * oddAt k x y))
theorem sg_pm {k x y : Nat} (hk : k < 8) (hx : x < 2) (hy : y < 2) : sg k x y = 1 ∨ sg k x y = -1 := by
  have : ∀ k : Nat, k < 8 → ∀ x : Nat, x < 2 → ∀ y : Nat, y < 2 → sg k x y = 1 ∨ sg k x y = -1 := by decide +kernel
  exact this k hk x hx y hy
theorem agr4 {a b c d : Int} (ha : -100000 ≤ a ∧ a ≤ 100000) (hb : -100000 ≤ b ∧ b ≤ 100000) (hc : -100000 ≤ c ∧ c ≤ 100000) (hd : -100000 ≤ d ∧ d ≤ 100000) : agr [a, b, c, d] = a - b - c + d := by
  show W (W (W (a - b) - c) + d) = _
  rw [wS (n := a - b) (by omega) (by omega), wS (n := a - b - c) (by omega) (by omega), wS (by omega) (by omega)]
/-- a sum, of four agreements -/
theorem esTo_eq {k : Nat} (hk : k < 8) {r0 r1 r2 r3 : List Int} {g0 g1 g2 g3 : Int} (e0 : agr r0 = g0) (e1 : agr r1 = g1) (e2 : agr r2 = g2) (e3 : agr r3 = g3)
    (h0 : -400000 ≤ g0 ∧ g0 ≤ 400000) (h1 : -400000 ≤ g1 ∧ g1 ≤ 400000) (h2 : -400000 ≤ g2 ∧ g2 ≤ 400000) (h3 : -400000 ≤ g3 ∧ g3 ≤ 400000) :
    esTo k [r0, r1, r2, r3] 2 = sg k 0 0 * g0 + sg k 0 1 * g1 + sg k 1 0 * g2 + sg k 1 1 * g3 := by
  show W (W (W (W (0 + W (agr r0 * sg k 0 0)) + W (agr r1 * sg k 0 1)) + W (agr r2 * sg k 1 0)) + W (agr r3 * sg k 1 1)) = _
  rw [e0, e1, e2, e3]
  have s0 := sg_pm hk (x := 0) (y := 0) (by omega) (by omega)
  have s1 := sg_pm hk (x := 0) (y := 1) (by omega) (by omega)
  have s2 := sg_pm hk (x := 1) (y := 0) (by omega) (by omega)
  have s3 := sg_pm hk (x := 1) (y := 1) (by omega) (by omega)
  generalize sg k 0 0 = t0 at *
  generalize sg k 0 1 = t1 at *
  generalize sg k 1 0 = t2 at *
  generalize sg k 1 1 = t3 at *
  have p0 : -400000 ≤ t0 * g0 ∧ t0 * g0 ≤ 400000 := by rcases s0 with rfl | rfl <;> omega
  have p1 : -400000 ≤ t1 * g1 ∧ t1 * g1 ≤ 400000 := by rcases s1 with rfl | rfl <;> omega
  have p2 : -400000 ≤ t2 * g2 ∧ t2 * g2 ≤ 400000 := by rcases s2 with rfl | rfl <;> omega
  have p3 : -400000 ≤ t3 * g3 ∧ t3 * g3 ≤ 400000 := by rcases s3 with rfl | rfl <;> omega
  rw [Int.mul_comm g0, Int.mul_comm g1, Int.mul_comm g2, Int.mul_comm g3]
  rw [wS (n := t0 * g0) (by omega) (by omega), wS (n := t1 * g1) (by omega) (by omega), wS (n := t2 * g2) (by omega) (by omega), wS (n := t3 * g3) (by omega) (by omega)]
  rw [wS (n := 0 + t0 * g0) (by omega) (by omega), wS (n := 0 + t0 * g0 + t1 * g1) (by omega) (by omega), wS (n := 0 + t0 * g0 + t1 * g1 + t2 * g2) (by omega) (by omega), wS (by omega) (by omega)]
  omega
theorem esL_get {m : List (List Int)} {k : Nat} (hk : k < 8) : (esL m).getD k 0 = esTo k m 2 := range_getD hk

def eqSg (k x y : Nat) : Bool := (sg k x y == 1 && eqNum k x y 0 0 == 1 && eqNum k x y 0 1 == 0 && eqNum k x y 1 0 == 0 && eqNum k x y 1 1 == 1) || (sg k x y == -1 && eqNum k x y 0 0 == 0 && eqNum k x y 0 1 == 1 && eqNum k x y 1 0 == 1 && eqNum k x y 1 1 == 0)
theorem eq_sg {k x y : Nat} (hk : k < 8) (hx : x < 2) (hy : y < 2) : (sg k x y = 1 ∧ eqNum k x y 0 0 = 1 ∧ eqNum k x y 0 1 = 0 ∧ eqNum k x y 1 0 = 0 ∧ eqNum k x y 1 1 = 1) ∨
      (sg k x y = -1 ∧ eqNum k x y 0 0 = 0 ∧ eqNum k x y 0 1 = 1 ∧ eqNum k x y 1 0 = 1 ∧ eqNum k x y 1 1 = 0) := by
  have : ∀ k : Nat, k < 8 → ∀ x : Nat, x < 2 → ∀ y : Nat, y < 2 → eqSg k x y = true := by decide +kernel
  have h := this k hk x hx y hy
  simp only [eqSg, Bool.or_eq_true, Bool.and_eq_true, beq_iff_eq] at h
  rcases h with ⟨⟨⟨⟨a, b⟩, c⟩, d⟩, e⟩ | ⟨⟨⟨⟨a, b⟩, c⟩, d⟩, e⟩
  · exact .inl ⟨a, b, c, d, e⟩
  · exact .inr ⟨a, b, c, d, e⟩
theorem quiet_2 (a b c d : List Int) : quietF 2 2 [a, b, c, d] = (((one0 b == one0 a)) && ((one0 d == one0 c)) && (((one1 c == one1 a)) && ((one1 d == one1 b)))) := by
  simp [quietF, q0r, q1r, q0, q1, List.range_succ]
theorem bIx_ge (f : Nat → Int) : ∀ n k, k ≤ n → f k ≤ f (bIx f n)
  | 0, k, h => by
    obtain rfl : k = 0 := by omega
    exact Int.le_refl _
  | n + 1, k, h => by
    rw [bIx]
    split
    · rename_i hg
      by_cases hk : k = n + 1
      · subst hk; omega
      · have := bIx_ge f n k (by omega); omega
    · rename_i hg
      by_cases hk : k = n + 1
      · subst hk; omega
      · exact bIx_ge f n k (by omega)
end Go.Proofs.Ytkomndcehdneaaa
/- Boxes of any sizes that are mixed: reference and program. -/
namespace Go.Aw
/-- a table of four columns -/
def gridR (G : Nat → Nat → Int) (p : Nat) : List Int := (List.range 4).map (G p)
def grid (n : Nat) (G : Nat → Nat → Int) : List (List Int) := (List.range n).map (gridR G)
theorem grid_len (n : Nat) (G : Nat → Nat → Int) : (grid n G).length = n := by simp [grid]
theorem grid_rows {n : Nat} {G : Nat → Nat → Int} : ∀ r, r ∈ grid n G → r.length = 4 := fun r hr => by
  obtain ⟨p, _, rfl⟩ := List.mem_map.1 hr
  simp [gridR]
theorem grid_get {n : Nat} {G : Nat → Nat → Int} {p q : Nat} (hp : p < n) (hq : q < 4) : ((grid n G).getD p []).getD q 0 = G p q := by
  rw [grid, range_getD hp, gridR, range_getD hq]
theorem grid_row {n : Nat} {G : Nat → Nat → Int} {p : Nat} (hp : p < n) : (grid n G).getD p [] = [G p 0, G p 1, G p 2, G p 3] := by
  rw [grid, range_getD hp]; rfl
theorem grid_congr {n : Nat} {F G : Nat → Nat → Int} (h : ∀ p q, p < n → q < 4 → F p q = G p q) : grid n F = grid n G :=
  List.map_congr_left fun p hp => List.map_congr_left fun q hq => h p q (List.mem_range.1 hp) (List.mem_range.1 hq)
theorem grid_eta {m : List (List Int)} (hr : ∀ r, r ∈ m → r.length = 4) : grid m.length (fun p q => (m.getD p []).getD q 0) = m := by
  refine List.ext_getElem (by rw [grid_len]) (fun p h1 h2 => ?_)
  have hp : p < m.length := h2
  have e1 : (grid m.length (fun p q => (m.getD p []).getD q 0))[p] = (grid m.length (fun p q => (m.getD p []).getD q 0)).getD p [] := by rw [List.getD_eq_getElem?_getD, List.getElem?_eq_getElem h1]; rfl
  have e2 : m.getD p [] = m[p] := by rw [List.getD_eq_getElem?_getD, List.getElem?_eq_getElem hp]; rfl
  rw [e1, grid_row hp, e2]
  match m[p], hr _ (List.getElem_mem hp) with
  | [a, b, c, d], _ => rfl
/-- rows by questions and answers -/
theorem box_grid (nx ny : Nat) (G : Nat → Nat → Int) : boxRows (fun x y a b => G (x * ny + y) (2 * a + b)) nx ny = grid (nx * ny) G := by
  have row : ∀ x y, boxRow (fun x y a b => G (x * ny + y) (2 * a + b)) x y = gridR G (x * ny + y) := fun x y => rfl
  induction nx with
  | zero => simp [boxRows, grid]
  | succ n ih =>
    have e : boxRows (fun x y a b => G (x * ny + y) (2 * a + b)) (n + 1) ny = boxRows (fun x y a b => G (x * ny + y) (2 * a + b)) n ny ++ (List.range ny).map (boxRow (fun x y a b => G (x * ny + y) (2 * a + b)) n) := by
      simp [boxRows, List.range_succ]
    rw [e, ih, Nat.succ_mul]
    unfold grid
    rw [List.range_add, List.map_append, List.map_map]
    rfl
def mxN (m m' : List (List Int)) (p q : Nat) : Int := W ((m.getD p []).getD q 0 + (m'.getD p []).getD q 0)
end Go.Aw
namespace Go.Proofs.Ytkomndcehdneaaa
open Go.Aw
set_option maxRecDepth 100000
set_option maxHeartbeats 4000000

theorem grid_sz {n : Nat} (h : n ≤ 9) (G : Nat → Nat → Int) : SzM (grid n G) := by
  have k1 := tot_le_mul (m := grid n G) (n := 4) (fun r hr => by rw [grid_rows r hr]; omega)
  rw [grid_len] at k1
  have : n * 4 ≤ 9 * 4 := Nat.mul_le_mul_right 4 h
  unfold SzM; rw [grid_len]; omega
theorem l2MixG_spec (x y z z' : Int) (m m' : List (List Int)) (N : Nat) (hN : N ≤ 1000) (hm : m.length = N) (h4 : ∀ r, r ∈ m → r.length = 4) (hm' : m'.length = N) (h4' : ∀ r, r ∈ m' → r.length = 4) (x' y' : Int) :
    FSpec Try.prog 172 [.ag [.c (.int .i64 (x)), .c (.int .i64 (y)), .c (.int .i64 (z)), .t (.rows m)], .ag [.c (.int .i64 (x')), .c (.int .i64 (y')), .c (.int .i64 (z')), .t (.rows m')]] (ex (.ag [.c (.int .i64 (x)), .c (.int .i64 (y)), .c (.int .i64 (W (z + z'))), .own 0]) [(0, .rows 25 3 true (grid N (mxN m m')))]) := by
  refine fspec tyOk mx Try.func172 rfl (by kernel_rfl) rfl ?_
  conv => whnf
  refine aloopI tyOk mx (fun i : Nat => (⟨59, [(2, .ptr 0 0), (3, .ptr 1 0), (4, .ptr 2 0), (5, .ptr 4 0), (6, .c (.int .i64 (i)))], [(0, .cells 53 [.c (.int .i64 (x)), .c (.int .i64 (y)), .c (.int .i64 (z)), .t (.rows m)]), (1, .cells 53 [.c (.int .i64 (x')), .c (.int .i64 (y')), .c (.int .i64 (z')), .t (.rows m')]), (2, .cells 53 [.c (.int .i64 (0)), .c (.int .i64 (0)), .c (.int .i64 (0)), .c (.slice none 0 0)]), (3, .rows 25 3 true ((List.range i).map (gridR (mxN m m')))), (4, .cells 53 [.c (.int .i64 (x)), .c (.int .i64 (y)), .c (.int .i64 (W (z + z'))), .own 3])], 5⟩ : St)) (fun i => i ≤ N) (fun i => N - i) 0 (Nat.zero_le _) none (by refine ⟨rfl, rfl, ?_, ?_⟩ <;> ((repeat' (first | exact trivial | exact rfl | refine And.intro ?_ ?_)) <;> (try ((conv => whnf); first | refine vint ?_ | refine vboo ?_ | refine rint ?_ | refine rrow ?_ | skip)) <;> (try first | omega | (simp; done) | ((repeat rw [flts_closed _ (by assumption)]); exact vws_closed _ (by assumption))))) (fun i hi => ?_)
  refine ⟨fun h => ?_, fun h => ?_⟩
  · have h : i < N := by have := ltT h; omega
    have r1 := h4 _ (getD_mem (d := []) (k := i) (by omega))
    have r2 := h4' _ (getD_mem (d := []) (k := i) (by omega))
    conv => whnf
    refine aloopI tyOk mx (fun n : Nat => (⟨59, [(2, .ptr 0 0), (3, .ptr 1 0), (4, .ptr 2 0), (5, .ptr 4 0), (6, .c (.int .i64 (i))), (7, .own 5), (8, .c (.int .i64 (n)))], [(0, .cells 53 [.c (.int .i64 (x)), .c (.int .i64 (y)), .c (.int .i64 (z)), .t (.rows m)]), (1, .cells 53 [.c (.int .i64 (x')), .c (.int .i64 (y')), .c (.int .i64 (z')), .t (.rows m')]), (2, .cells 53 [.c (.int .i64 (0)), .c (.int .i64 (0)), .c (.int .i64 (0)), .c (.slice none 0 0)]), (3, .rows 25 3 true ((List.range i).map (gridR (mxN m m')))), (4, .cells 53 [.c (.int .i64 (x)), .c (.int .i64 (y)), .c (.int .i64 (W (z + z'))), .own 3]), (5, .ints 3 .i64 ((List.range n).map (mxN m m' i)))], 6⟩ : St)) (fun n => n ≤ 4) (fun n => 4 - n) 0 (Nat.zero_le _) none (by refine ⟨rfl, rfl, ?_, ?_⟩ <;> ((repeat' (first | exact trivial | exact rfl | refine And.intro ?_ ?_)) <;> (try ((conv => whnf); first | refine vint ?_ | refine vboo ?_ | refine rint ?_ | refine rrow ?_ | skip)) <;> (try first | omega | (simp; done) | ((repeat rw [flts_closed _ (by assumption)]); exact vws_closed _ (by assumption))))) (fun n hn => ?_)
    refine ⟨fun h5 => ?_, fun h5 => ?_⟩
    · have h5 : n < 4 := by have := of_decide_eq_true h5; omega
      refine ADraw.plan tyOk mx (.q 0 (.q 1 (.q 2 (.q 3 (.q 4 (.q 5 (.q 6 (.q 7 (.q 8 (.q 9 (.q 10 (.q 11 (.q 12 (.q 13 (.q 14 (.q 15 (.q 16 (.q 17 (.last 18 (.last 19 (.q 20 (.done))))))))))))))))))))) : Plan) (by kernel_rfl) ?_
      conv => whnf
      refine ⟨i, rfl, by omega, n, rfl, by omega, i, rfl, by omega, n, rfl, by omega, ?_⟩
      conv => whnf
      refine ⟨by simp [room]; omega, ?_⟩
      conv => whnf
      rw [nat_wrap (by omega)]
      refine ⟨n + 1, none, ?_, by omega, by omega⟩
      (refine ⟨rfl, rfl, ?_, ?_⟩ <;> ((repeat' (first | exact trivial | exact rfl | refine And.intro ?_ ?_)) <;> (try ((conv => whnf); first | refine vint ?_ | refine vboo ?_ | refine rint ?_ | refine rrow ?_ | skip)) <;> (try first | omega | (simp; done) | ((repeat rw [flts_closed _ (by assumption)]); exact vws_closed _ (by assumption)))))
      rw [← map_range_succ]; rfl
    · have h5 : ¬ n < 4 := by have := of_decide_eq_false h5; omega
      obtain rfl : n = 4 := by omega
      conv => whnf
      refine ⟨by simp [room]; omega, ?_⟩
      conv => whnf
      rw [nat_wrap (by omega)]
      refine ⟨i + 1, none, ?_, by omega, by omega⟩
      (refine ⟨rfl, rfl, ?_, ?_⟩ <;> ((repeat' (first | exact trivial | exact rfl | refine And.intro ?_ ?_)) <;> (try ((conv => whnf); first | refine vint ?_ | refine vboo ?_ | refine rint ?_ | refine rrow ?_ | skip)) <;> (try first | omega | (simp; done) | ((repeat rw [flts_closed _ (by assumption)]); exact vws_closed _ (by assumption)))))
      exact map_range_succ (gridR (mxN m m')) i
  · have h : ¬ i < N := by have := ltF h; omega
    obtain rfl : i = N := by omega
    conv => whnf
    exact ⟨rfl, rfl⟩
/-- four numbers of at least 0 with a sum -/
theorem row4g {r : List Int} {z : Int} (h : rowOk z r = true) (hz : z ≤ 1000) : ∃ a b c d : Int, r = [a, b, c, d] ∧ 0 ≤ a ∧ 0 ≤ b ∧ 0 ≤ c ∧ 0 ≤ d ∧ a + b + c + d = z := by
  simp only [rowOk, Bool.and_eq_true, decide_eq_true_eq] at h
  obtain ⟨⟨h1, h2⟩, h3⟩ := h
  exact row4 hz h1 (fun v hv => rowIn_iff.1 h2 v hv) h3
/-- the mixture of good boxes is good, where it is not too great -/
theorem mx_good {x y z z' : Int} {m m' : List (List Int)} (h : goodB x y z m = true) (h' : goodB x y z' m' = true) (hz : z + z' ≤ 1000) : goodB x y (z + z') (grid m.length (mxN m m')) = true := by
  have h0 := h; have h0' := h'
  simp only [goodB, Bool.and_eq_true, decide_eq_true_eq, List.all_eq_true] at h h'
  obtain ⟨⟨⟨h1, h2⟩, h3⟩, h4⟩ := h
  obtain ⟨⟨⟨h1', h2'⟩, h3'⟩, h4'⟩ := h'
  have z1 := inR_iff.1 h2; have z2 := inR_iff.1 h2'
  simp only [goodB, Bool.and_eq_true, decide_eq_true_eq, List.all_eq_true]
  refine ⟨⟨⟨h1, inR_iff.2 (by omega)⟩, by rw [grid_len]; exact h3⟩, fun r hr => ?_⟩
  obtain ⟨p, hp, rfl⟩ := List.mem_map.1 hr
  have hp := List.mem_range.1 hp
  have hp' : p < m'.length := by omega
  obtain ⟨a, b, c, d, e, ha, hb, hc, hd, hs⟩ := row4g (h4 _ (getD_mem (d := []) hp)) z1.2
  obtain ⟨a', b', c', d', e', ha', hb', hc', hd', hs'⟩ := row4g (h4' _ (getD_mem (d := []) hp')) z2.2
  have eR : gridR (mxN m m') p = [W (a + a'), W (b + b'), W (c + c'), W (d + d')] := by
    show [mxN m m' p 0, mxN m m' p 1, mxN m m' p 2, mxN m m' p 3] = _
    unfold mxN
    rw [e, e']; rfl
  rw [eR, wS (n := a + a') (by omega) (by omega), wS (n := b + b') (by omega) (by omega), wS (n := c + c') (by omega) (by omega), wS (n := d + d') (by omega) (by omega)]
  exact rowOk_mk (by omega) (by omega) (by omega) (by omega) (by omega) hz

def mbOk (x y z : Int) (m : List (List Int)) (x' y' z' : Int) (m' : List (List Int)) : Bool := sqB x y z m x' y' z' m' && decide (z + z' ≤ 1000)
def mbR (x y z : Int) (m : List (List Int)) (x' y' z' : Int) (m' : List (List Int)) : List (List Int) := if mbOk x y z m x' y' z' m' then grid m.length (mxN m m') else []
theorem mxN_spec (nx ny : Nat) (z z' : Int) (m m' : List (List Int)) (hm : m.length = nx * ny) (hn : nx * ny ≤ 9) (h4 : ∀ r, r ∈ m → r.length = 4) (hm' : m'.length = nx * ny) (h4' : ∀ r, r ∈ m' → r.length = 4) (x y a b : Nat) (hx : x < nx) (hy : y < ny) (ha : a < 2) (hb : b < 2) :
    FSpec Try.prog 168 [.c (.int .i64 (x)), .c (.int .i64 (y)), .c (.int .i64 (a)), .c (.int .i64 (b)), .rp [.c (.int .i64 (nx)), .c (.int .i64 (ny)), .c (.int .i64 (z)), .t (.rows m)] 0, .rp [.c (.int .i64 (nx)), .c (.int .i64 (ny)), .c (.int .i64 (z')), .t (.rows m')] 0] (ex (.c (.int .i64 (mxN m m' (x * ny + y) (2 * a + b)))) []) := by
  have hix := ix_lt hx hy
  have hr := h4' _ (getD_mem (d := []) (show x * ny + y < m'.length by omega))
  have hr2 := h4 _ (getD_mem (d := []) (show x * ny + y < m.length by omega))
  refine fspec tyOk mx Try.func168 rfl (by kernel_rfl) rfl ?_
  conv => whnf
  refine ADraw.plan tyOk mx (.q 0 (.q 1 (.q 2 (.q 3 (.q 4 (.q 6 (.q 7 (.q 8 (.q 9 (.q 10 (.last 5 (.last 11 (.q 12 (.q 13 (.done)))))))))))))) : Plan) (by kernel_rfl) ?_
  conv => whnf
  refine ACall.useR (at_spec nx ny x y a b z m (by omega) (by omega) (by omega) (by omega)) ?_
  conv => whnf
  refine ACall.useR (at_spec nx ny x y a b z' m' (by omega) (by omega) (by omega) (by omega)) ?_
  conv => whnf
  exact ⟨rfl, rfl⟩
theorem MixBoxes_i (x y z : Int) (m : List (List Int)) (x' y' z' : Int) (m' : List (List Int)) (km : SzM m) (km' : SzM m') :
    FSpec Try.prog 48 [.ag [.c (.int .i64 (x)), .c (.int .i64 (y)), .c (.int .i64 (z)), .t (.rows m)], .ag [.c (.int .i64 (x')), .c (.int .i64 (y')), .c (.int .i64 (z')), .t (.rows m')]]
      (ex (.tu [.ag [.c (.int .i64 (if mbOk x y z m x' y' z' m' then x else 0)), .c (.int .i64 (if mbOk x y z m x' y' z' m' then y else 0)), .c (.int .i64 (if mbOk x y z m x' y' z' m' then z + z' else 0)), .own 0], .c (.bool (mbOk x y z m x' y' z' m'))]) [(0, .rows 25 3 true (mbR x y z m x' y' z' m'))]) := by
  refine view_box ?_
  refine fspec tyOk mx Try.func48 rfl (by kernel_rfl) rfl ?_
  conv => whnf
  refine ACall.use (sameQuestions_spec x y z m x' y' z' m' km km') ?_
  conv => whnf
  refine ⟨fun h => ?_, fun h => ?_⟩
  · have h : sqB x y z m x' y' z' m' = true := by simpa using h
    obtain ⟨h1, h2, e1, e2⟩ := sqB_spec h
    subst e1 e2
    obtain ⟨a, b, ea, eb, _, a3, _, b3, z1, z3, l1, c1, r1⟩ := goodB_spec h1
    obtain ⟨a', b', ea', eb', _, _, _, _, z1', z3', l2, c2, r2⟩ := goodB_spec h2
    have ha : a = a' := by omega
    have hb : b = b' := by omega
    subst ha hb
    subst ea eb
    have ew : IntKind.i64.wrap (z + z') = z + z' := w64 (by omega) (by omega)
    conv => whnf
    rw [ew]
    refine ⟨fun h3 => ?_, fun h3 => ?_⟩
    · have h3 := of_decide_eq_true h3
      have e : mbOk a b z m a b z' m' = false := by rw [mbOk, h, decide_eq_false (by omega)]; rfl
      conv => whnf
      exact .inl ⟨e, rfl, rfl⟩
    · have h3 := of_decide_eq_false h3
      have e : mbOk a b z m a b z' m' = true := by rw [mbOk, h, decide_eq_true (by omega)]; rfl
      conv => whnf
      rw [ew]
      refine ACall.use (newBox_spec a b (z + z') _ [.rp [.c (.int .i64 (a)), .c (.int .i64 (b)), .c (.int .i64 (z)), .t (.rows m)] 0, .rp [.c (.int .i64 (a)), .c (.int .i64 (b)), .c (.int .i64 (z')), .t (.rows m')] 0] (fun x y a' b' => mxN m m' (x * b + y) (2 * a' + b')) (by omega) (by omega) (fun _ _ => rfl) rfl (fun i k' a' b' hi hk ha hb => mxN_spec a b z z' m m' l1 c1 (fun r hr => (r1 r hr).1) l2 (fun r hr => (r2 r hr).1) i k' a' b' hi hk ha hb)) ?_
      rw [box_grid, ← l1]
      conv => whnf
      exact .inr ⟨e, rfl, rfl⟩
  · have h : sqB x y z m x' y' z' m' = false := by simpa using h
    have e : mbOk x y z m x' y' z' m' = false := by rw [mbOk, h]; rfl
    (repeat (conv => whnf); (first | refine ⟨fun h => absurd h (by decide), fun _ => ?_⟩ | refine ⟨fun _ => ?_, fun h => absurd h (by decide)⟩)); conv => whnf
    exact .inl ⟨e, rfl, rfl⟩
theorem l2Same_spec (x y z : Int) (m : List (List Int)) (x' y' z' : Int) (m' : List (List Int)) (km : SzM m) (km' : SzM m') :
    FSpec Try.prog 170 [.ag [.c (.int .i64 (x)), .c (.int .i64 (y)), .c (.int .i64 (z)), .t (.rows m)], .ag [.c (.int .i64 (x')), .c (.int .i64 (y')), .c (.int .i64 (z')), .t (.rows m')]] (ex (.c (.bool (sqB x y z m x' y' z' m'))) []) := by
  refine fspec tyOk mx Try.func170 rfl (by kernel_rfl) rfl ?_
  conv => whnf
  refine ACall.use (l2Box_spec x y z m km) ?_
  conv => whnf
  refine ⟨fun h => ?_, fun h => ?_⟩
  · conv => whnf
    refine ACall.use (l2Box_spec x' y' z' m' km') ?_
    conv => whnf
    refine ⟨fun h2 => ?_, fun h2 => ?_⟩
    · conv => whnf
      refine ⟨fun h3 => ?_, fun h3 => ?_⟩
      · conv => whnf
        have e : x = x' := by simpa using h3
        refine ⟨?_, rfl⟩
        rw [sqB, h, h2, decide_eq_true e]
        by_cases hy : y = y'
        · rw [decide_eq_true hy]; simp [hy]
        · rw [decide_eq_false hy]; simp [hy]
      · conv => whnf
        have e : ¬ x = x' := by simpa using h3
        exact ⟨by rw [sqB, decide_eq_false e, Bool.false_and, Bool.and_false, Bool.and_false], rfl⟩
    · (repeat (conv => whnf); (first | refine ⟨fun h => absurd h (by decide), fun _ => ?_⟩ | refine ⟨fun _ => ?_, fun h => absurd h (by decide)⟩)); conv => whnf
      exact ⟨by rw [sqB, h2, Bool.false_and, Bool.and_false], rfl⟩
  · (repeat (conv => whnf); (first | refine ⟨fun h => absurd h (by decide), fun _ => ?_⟩ | refine ⟨fun _ => ?_, fun h => absurd h (by decide)⟩)); conv => whnf
    exact ⟨by rw [sqB, h, Bool.false_and], rfl⟩
theorem MixBoxes_s (x y z : Int) (m : List (List Int)) (x' y' z' : Int) (m' : List (List Int)) (km : SzM m) (km' : SzM m') :
    FSpec Try.prog 49 [.ag [.c (.int .i64 (x)), .c (.int .i64 (y)), .c (.int .i64 (z)), .t (.rows m)], .ag [.c (.int .i64 (x')), .c (.int .i64 (y')), .c (.int .i64 (z')), .t (.rows m')]]
      (ex (.tu [.ag [.c (.int .i64 (if mbOk x y z m x' y' z' m' then x else 0)), .c (.int .i64 (if mbOk x y z m x' y' z' m' then y else 0)), .c (.int .i64 (if mbOk x y z m x' y' z' m' then z + z' else 0)), .own 0], .c (.bool (mbOk x y z m x' y' z' m'))]) [(0, .rows 25 3 true (mbR x y z m x' y' z' m'))]) := by
  refine view_box ?_
  refine fspec tyOk mx Try.func49 rfl (by kernel_rfl) rfl ?_
  conv => whnf
  refine ACall.use (l2Same_spec x y z m x' y' z' m' km km') ?_
  conv => whnf
  refine ⟨fun h => ?_, fun h => ?_⟩
  · have h : sqB x y z m x' y' z' m' = false := by simpa using h
    have e : mbOk x y z m x' y' z' m' = false := by rw [mbOk, h]; rfl
    conv => whnf
    exact .inl ⟨e, rfl, rfl⟩
  · have h : sqB x y z m x' y' z' m' = true := by simpa using h
    obtain ⟨h1, h2, e1, e2⟩ := sqB_spec h
    subst e1 e2
    obtain ⟨a, b, ea, eb, _, a3, _, b3, z1, z3, l1, c1, r1⟩ := goodB_spec h1
    obtain ⟨a', b', ea', eb', _, _, _, _, z1', z3', l2, c2, r2⟩ := goodB_spec h2
    have ew : W (z + z') = z + z' := w64 (by omega) (by omega)
    have el : m'.length = m.length := by
      have e3 : a = a' := by omega
      have e4 : b = b' := by omega
      subst e3 e4
      omega
    conv => whnf
    refine ACall.use (l2MixG_spec x y z z' m m' m.length (by omega) rfl (fun r hr => (r1 r hr).1) el (fun r hr => (r2 r hr).1) x y) ?_
    rw [ew]
    conv => whnf
    refine ACallS.inline tyOk mx Try.func171 rfl (by kernel_rfl) rfl ?_
    conv => whnf
    refine ACall.use (l2Box_spec x y (z + z') (grid m.length (mxN m m')) (grid_sz (by omega) _)) ?_
    conv => whnf
    refine ⟨fun h5 => ?_, fun h5 => ?_⟩
    · have h5 : goodB x y (z + z') (grid m.length (mxN m m')) = false := by simpa using h5
      have hz : ¬ z + z' ≤ 1000 := fun hz => by rw [mx_good h1 h2 hz] at h5; cases h5
      have e : mbOk x y z m x y z' m' = false := by rw [mbOk, h, decide_eq_false hz]; rfl
      conv => whnf
      refine ⟨rfl, ?_⟩
      conv => whnf
      exact .inl ⟨e, rfl, rfl⟩
    · have h5 : goodB x y (z + z') (grid m.length (mxN m m')) = true := by simpa using h5
      have hz : z + z' ≤ 1000 := by
        obtain ⟨_, _, _, _, _, _, _, _, _, h8, _⟩ := goodB_spec h5
        exact h8
      have e : mbOk x y z m x y z' m' = true := by rw [mbOk, h, decide_eq_true hz]; rfl
      conv => whnf
      refine ⟨rfl, ?_⟩
      conv => whnf
      exact .inr ⟨e, rfl, rfl⟩
end Go.Proofs.Ytkomndcehdneaaa
/- Boxes of any sizes, scaled: reference and program. -/
namespace Go.Aw
def scN (k : Int) (m : List (List Int)) (p q : Nat) : Int := W (k * (m.getD p []).getD q 0)
theorem timesG_get {M : List (List Int)} (hr : ∀ r, r ∈ M → r.length = 4) (k d : Int) {p q : Nat} (hp : p < M.length) (hq : q < 4) : ((timesL M k d).getD p []).getD q 0 = W (Int.tdiv (W ((M.getD p []).getD q 0 * k)) d) := by
  have hm : M.getD p [] ∈ M := by rw [List.getD_eq_getElem?_getD, List.getElem?_eq_getElem (by omega)]; exact List.getElem_mem _
  rw [timesL, map_getD (d := []) (by omega), timesR, map_getD (d := 0) (by rw [hr _ hm]; omega)]
theorem timesG {M : List (List Int)} (hr : ∀ r, r ∈ M → r.length = 4) (k d : Int) : timesL M k d = grid M.length (fun p q => W (Int.tdiv (W ((M.getD p []).getD q 0 * k)) d)) := by
  rw [← grid_eta (m := timesL M k d) (fun r hc => by
    obtain ⟨c, hc', rfl⟩ := List.mem_map.1 hc
    rw [timesR, List.length_map]; exact hr c hc'), timesL_len]
  exact grid_congr fun p q hp hq => timesG_get hr k d hp hq
theorem times_sc {M : List (List Int)} (hr : ∀ r, r ∈ M → r.length = 4) (k : Int) : timesL M k 1 = grid M.length (scN k M) := by
  rw [timesG hr]
  exact grid_congr fun p q _ _ => by rw [tdiv_one, WW, Int.mul_comm]; rfl
end Go.Aw
namespace Go.Proofs.Ytkomndcehdneaaa
open Go.Aw
set_option maxRecDepth 100000
set_option maxHeartbeats 4000000
def skOk (x y z : Int) (m : List (List Int)) (k : Int) : Bool := goodB x y z m && inR k 1 1000 && decide (k * z ≤ 1000)
def skR (x y z : Int) (m : List (List Int)) (k : Int) : List (List Int) := if skOk x y z m k then grid m.length (scN k m) else []
/-- a scaled good box is good, where it is not too great -/
theorem sc_good {x y z k : Int} {m : List (List Int)} (h : goodB x y z m = true) (hk : 1 ≤ k) (hz : k * z ≤ 1000) : goodB x y (k * z) (grid m.length (scN k m)) = true := by
  have h0 := h
  simp only [goodB, Bool.and_eq_true, decide_eq_true_eq, List.all_eq_true] at h
  obtain ⟨⟨⟨h1, h2⟩, h3⟩, h4⟩ := h
  have z1 := inR_iff.1 h2
  have k1 : z ≤ k * z := by
    have := Int.mul_le_mul_of_nonneg_right (a := 1) (b := k) (c := z) hk (by omega)
    omega
  simp only [goodB, Bool.and_eq_true, decide_eq_true_eq, List.all_eq_true]
  refine ⟨⟨⟨h1, inR_iff.2 (by omega)⟩, by rw [grid_len]; exact h3⟩, fun r hr => ?_⟩
  obtain ⟨p, hp, rfl⟩ := List.mem_map.1 hr
  have hp := List.mem_range.1 hp
  obtain ⟨a, b, c, d, e, ha, hb, hc, hd, hs⟩ := row4g (h4 _ (getD_mem (d := []) hp)) z1.2
  have eR : gridR (scN k m) p = [W (k * a), W (k * b), W (k * c), W (k * d)] := by
    show [scN k m p 0, scN k m p 1, scN k m p 2, scN k m p 3] = _
    unfold scN
    rw [e]; rfl
  have qa := Int.mul_nonneg (a := k) (by omega) ha
  have qb := Int.mul_nonneg (a := k) (by omega) hb
  have qc := Int.mul_nonneg (a := k) (by omega) hc
  have qd := Int.mul_nonneg (a := k) (by omega) hd
  have qs : k * a + k * b + k * c + k * d = k * z := by rw [← hs]; simp only [Int.mul_add]
  rw [eR, wS (n := k * a) (by omega) (by omega), wS (n := k * b) (by omega) (by omega), wS (n := k * c) (by omega) (by omega), wS (n := k * d) (by omega) (by omega)]
  exact rowOk_mk (by omega) (by omega) (by omega) (by omega) (by omega) hz
theorem sc_bd {k z : Int} (h1 : 1 ≤ k) (h2 : k ≤ 1000) (h3 : 1 ≤ z) (h4 : z ≤ 1000) : 1 ≤ k * z ∧ k * z ≤ 1000000 := by
  have a := Int.mul_le_mul h2 h4 (by omega) (by omega : (0 : Int) ≤ 1000)
  have b := Int.mul_le_mul h1 h3 (by omega) (by omega : (0 : Int) ≤ k)
  omega
theorem scN_spec (nx ny : Nat) (z k : Int) (m : List (List Int)) (hm : m.length = nx * ny) (hn : nx * ny ≤ 9) (h4 : ∀ r, r ∈ m → r.length = 4) (x y a b : Nat) (hx : x < nx) (hy : y < ny) (ha : a < 2) (hb : b < 2) :
    FSpec Try.prog 173 [.c (.int .i64 (x)), .c (.int .i64 (y)), .c (.int .i64 (a)), .c (.int .i64 (b)), .rp [.c (.int .i64 (k))] 0, .rp [.c (.int .i64 (nx)), .c (.int .i64 (ny)), .c (.int .i64 (z)), .t (.rows m)] 0] (ex (.c (.int .i64 (scN k m (x * ny + y) (2 * a + b)))) []) := by
  have hix := ix_lt hx hy
  have hr2 := h4 _ (getD_mem (d := []) (show x * ny + y < m.length by omega))
  refine fspec tyOk mx Try.func173 rfl (by kernel_rfl) rfl ?_
  conv => whnf
  refine ADraw.plan tyOk mx (.q 0 (.q 1 (.q 2 (.q 3 (.q 4 (.q 5 (.last 6 (.q 7 (.q 8 (.done))))))))) : Plan) (by kernel_rfl) ?_
  conv => whnf
  refine ACall.useR (at_spec nx ny x y a b z m (by omega) (by omega) (by omega) (by omega)) ?_
  conv => whnf
  exact ⟨rfl, rfl⟩
theorem ScaleBox_i (x y z : Int) (m : List (List Int)) (k : Int) (km : SzM m) :
    FSpec Try.prog 52 [.ag [.c (.int .i64 (x)), .c (.int .i64 (y)), .c (.int .i64 (z)), .t (.rows m)], .c (.int .i64 (k))]
      (ex (.tu [.ag [.c (.int .i64 (if skOk x y z m k then x else 0)), .c (.int .i64 (if skOk x y z m k then y else 0)), .c (.int .i64 (if skOk x y z m k then k * z else 0)), .own 0], .c (.bool (skOk x y z m k))]) [(0, .rows 25 3 true (skR x y z m k))]) := by
  refine view_box ?_
  refine fspec tyOk mx Try.func52 rfl (by kernel_rfl) rfl ?_
  conv => whnf
  refine ACall.use (IsBox_spec x y z m km) ?_
  conv => whnf
  refine ⟨fun h => ?_, fun h => ?_⟩
  · have h : goodB x y z m = true := by simpa using h
    conv => whnf
    refine ACall.use (within_spec _ _ _) ?_
    conv => whnf
    refine ⟨fun h2 => ?_, fun h2 => ?_⟩
    · have h2 : inR k 1 1000 = true := by simpa using h2
      have k2 := inR_iff.1 h2
      obtain ⟨a, b, ea, eb, _, a3, _, b3, z1, z3, l1, c1, r1⟩ := goodB_spec h
      have bd := sc_bd k2.1 k2.2 z1 z3
      subst ea eb
      have ew : IntKind.i64.wrap (k * z) = k * z := w64 (by omega) (by omega)
      conv => whnf
      rw [ew]
      refine ⟨fun h3 => ?_, fun h3 => ?_⟩
      · have h3 := of_decide_eq_true h3
        have e : skOk a b z m k = false := by rw [skOk, h, h2, decide_eq_false (by omega)]; rfl
        conv => whnf
        exact .inl ⟨e, rfl, rfl⟩
      · have h3 := of_decide_eq_false h3
        have e : skOk a b z m k = true := by rw [skOk, h, h2, decide_eq_true (by omega)]; rfl
        conv => whnf
        rw [ew]
        refine ACall.use (newBox_spec a b (k * z) _ [.rp [.c (.int .i64 (k))] 0, .rp [.c (.int .i64 (a)), .c (.int .i64 (b)), .c (.int .i64 (z)), .t (.rows m)] 0] (fun x y a' b' => scN k m (x * b + y) (2 * a' + b')) (by omega) (by omega) (fun _ _ => rfl) rfl (fun i k' a' b' hi hk ha hb => scN_spec a b z k m l1 c1 (fun r hr => (r1 r hr).1) i k' a' b' hi hk ha hb)) ?_
        rw [box_grid, ← l1]
        conv => whnf
        exact .inr ⟨e, rfl, rfl⟩
    · have h2 : inR k 1 1000 = false := by simpa using h2
      have e : skOk x y z m k = false := by rw [skOk, h, h2]; rfl
      (repeat (conv => whnf); (first | refine ⟨fun h => absurd h (by decide), fun _ => ?_⟩ | refine ⟨fun _ => ?_, fun h => absurd h (by decide)⟩)); conv => whnf
      exact .inl ⟨e, rfl, rfl⟩
  · have h : goodB x y z m = false := by simpa using h
    have e : skOk x y z m k = false := by rw [skOk, h]; rfl
    (repeat (conv => whnf); (first | refine ⟨fun h => absurd h (by decide), fun _ => ?_⟩ | refine ⟨fun _ => ?_, fun h => absurd h (by decide)⟩)); conv => whnf
    exact .inl ⟨e, rfl, rfl⟩
theorem ScaleBox_s (x y z : Int) (m : List (List Int)) (k : Int) (km : SzM m) :
    FSpec Try.prog 53 [.ag [.c (.int .i64 (x)), .c (.int .i64 (y)), .c (.int .i64 (z)), .t (.rows m)], .c (.int .i64 (k))]
      (ex (.tu [.ag [.c (.int .i64 (if skOk x y z m k then x else 0)), .c (.int .i64 (if skOk x y z m k then y else 0)), .c (.int .i64 (if skOk x y z m k then k * z else 0)), .own 0], .c (.bool (skOk x y z m k))]) [(0, .rows 25 3 true (skR x y z m k))]) := by
  refine view_box ?_
  refine fspec tyOk mx Try.func53 rfl (by kernel_rfl) rfl ?_
  conv => whnf
  refine ACall.use (l2Box_spec x y z m km) ?_
  conv => whnf
  refine ⟨fun h => ?_, fun h => ?_⟩
  · have h : goodB x y z m = true := by simpa using h
    conv => whnf
    refine ACall.use (l1In_spec _ _ _) ?_
    conv => whnf
    refine ⟨fun h2 => ?_, fun h2 => ?_⟩
    · have h2 : inR k 1 1000 = false := by simpa using h2
      have e : skOk x y z m k = false := by rw [skOk, h, h2]; rfl
      conv => whnf
      exact .inl ⟨e, rfl, rfl⟩
    · have h2 : inR k 1 1000 = true := by simpa using h2
      have k2 := inR_iff.1 h2
      obtain ⟨a, b, ea, eb, _, a3, _, b3, z1, z3, l1, c1, r1⟩ := goodB_spec h
      have bd := sc_bd k2.1 k2.2 z1 z3
      have ew : W (Int.tdiv (W (z * k)) 1) = k * z := by rw [tdiv_one, WW, Int.mul_comm]; exact w64 (by omega) (by omega)
      conv => whnf
      refine ACall.use (l2Times_spec x y z m k 1 (by decide) (by omega) (fun r hr => by rw [(r1 r hr).1]; omega)) ?_
      rw [ew, times_sc (fun r hr => (r1 r hr).1)]
      conv => whnf
      refine ACallS.inline tyOk mx Try.func171 rfl (by kernel_rfl) rfl ?_
      conv => whnf
      refine ACall.use (l2Box_spec x y (k * z) (grid m.length (scN k m)) (grid_sz (by omega) _)) ?_
      conv => whnf
      refine ⟨fun h5 => ?_, fun h5 => ?_⟩
      · have h5 : goodB x y (k * z) (grid m.length (scN k m)) = false := by simpa using h5
        have hz : ¬ k * z ≤ 1000 := fun hz => by rw [sc_good h k2.1 hz] at h5; cases h5
        have e : skOk x y z m k = false := by rw [skOk, h, h2, decide_eq_false hz]; rfl
        conv => whnf
        refine ⟨rfl, ?_⟩
        conv => whnf
        exact .inl ⟨e, rfl, rfl⟩
      · have h5 : goodB x y (k * z) (grid m.length (scN k m)) = true := by simpa using h5
        have hz : k * z ≤ 1000 := by
          obtain ⟨_, _, _, _, _, _, _, _, _, h8, _⟩ := goodB_spec h5
          exact h8
        have e : skOk x y z m k = true := by rw [skOk, h, h2, decide_eq_true hz]; rfl
        conv => whnf
        refine ⟨rfl, ?_⟩
        conv => whnf
        exact .inr ⟨e, rfl, rfl⟩
  · have h : goodB x y z m = false := by simpa using h
    have e : skOk x y z m k = false := by rw [skOk, h]; rfl
    (repeat (conv => whnf); (first | refine ⟨fun h => absurd h (by decide), fun _ => ?_⟩ | refine ⟨fun _ => ?_, fun h => absurd h (by decide)⟩)); conv => whnf
    exact .inl ⟨e, rfl, rfl⟩
end Go.Proofs.Ytkomndcehdneaaa
/- Joined parts: what both make, and how boxes are reduced. -/
namespace Go.Aw
theorem tmodNat (a b : Nat) : Int.tmod (a : Int) (b : Int) = ((a % b : Nat) : Int) := (Int.ofNat_tmod a b).symm
theorem gcd_step (a b : Nat) : Nat.gcd b (a % b) = Nat.gcd a b := by
  rw [Nat.gcd_comm a b, Nat.gcd_rec b a, Nat.gcd_comm]
def gcR (m : List (List Int)) (i g n : Nat) : Nat := fo (fun g n => Nat.gcd g ((m.getD i []).getD n 0).toNat) g n
def gcM (z : Int) (m : List (List Int)) (n : Nat) : Nat := fo (fun g i => gcR m i g 4) z.toNat n
theorem gcR_bd (m : List (List Int)) (i : Nat) {g : Nat} (hg : 0 < g) : ∀ n, 0 < gcR m i g n ∧ gcR m i g n ≤ g
  | 0 => ⟨hg, Nat.le_refl _⟩
  | n + 1 => by
    have ih := gcR_bd m i hg n
    show 0 < Nat.gcd (gcR m i g n) _ ∧ Nat.gcd (gcR m i g n) _ ≤ g
    exact ⟨Nat.gcd_pos_of_pos_left _ ih.1, Nat.le_trans (Nat.gcd_le_left _ ih.1) ih.2⟩
theorem gcM_bd (z : Int) (m : List (List Int)) (hz : 1 ≤ z) : ∀ n, 0 < gcM z m n ∧ gcM z m n ≤ z.toNat
  | 0 => ⟨show 0 < z.toNat by omega, Nat.le_refl _⟩
  | n + 1 => by
    have ih := gcM_bd z m hz n
    have h := gcR_bd m n ih.1 4
    exact ⟨h.1, Nat.le_trans h.2 ih.2⟩
def mixL (m m' : List (List Int)) : List (List Int) := (List.range 4).map fun p => (List.range 4).map fun q => W ((m.getD p []).getD q 0 + (m'.getD p []).getD q 0)
end Go.Aw
namespace Go.Proofs.Ytkomndcehdneaaa
open Go.Aw
set_option maxRecDepth 100000
set_option maxHeartbeats 4000000

def jnNum (m : List (List Int)) (k N : Int) (x y a b : Nat) : Int := W ((m.getD (x * 2 + y) []).getD (2 * a + b) 0 + W (N * eqNum k x y a b))
def jnM (m : List (List Int)) (k N : Int) : List (List Int) := boxRows (jnNum m k N) 2 2
def jnW (z N : Int) : Int := W (z + W (2 * N))
def rdNum (m : List (List Int)) (g : Nat) (x y a b : Nat) : Int := W (Int.tdiv ((m.getD (x * 2 + y) []).getD (2 * a + b) 0) g)
def rdM (m : List (List Int)) (g : Nat) : List (List Int) := boxRows (rdNum m g) 2 2
def rdW (z : Int) (g : Nat) : Int := W (Int.tdiv z g)

theorem divisor_spec (a b : Nat) : FSpec Try.prog 174 [.c (.int .i64 (a)), .c (.int .i64 (b))] (ex (.c (.int .i64 (Nat.gcd a b))) []) := by
  refine fspec tyOk mx Try.func174 rfl (by kernel_rfl) rfl ?_
  conv => whnf
  refine aloopI tyOk mx (fun p : Nat × Nat => (⟨12, [(0, .c (.int .i64 (p.1))), (1, .c (.int .i64 (p.2)))], [], 0⟩ : St)) (fun p => Nat.gcd p.1 p.2 = Nat.gcd a b) (fun p => p.2) (a, b) rfl none (by refine ⟨rfl, rfl, ?_, ?_⟩ <;> ((repeat' (first | exact trivial | exact rfl | refine And.intro ?_ ?_)) <;> (try ((conv => whnf); first | refine vint ?_ | refine vboo ?_ | refine rint ?_ | refine rrow ?_ | skip)) <;> (try first | omega | (simp; done) | ((repeat rw [flts_closed _ (by assumption)]); exact vws_closed _ (by assumption))))) (fun p hp => ?_)
  refine ⟨fun h => ?_, fun h => ?_⟩
  · have h : (p.2 : Int) ≠ 0 := by simpa using h
    conv => whnf
    refine ADraw.std tyOk mx ⟨by kernel_rfl, ?_⟩
    conv => whnf
    refine ⟨h, ?_⟩
    conv => whnf
    rw [tmodNat]
    exact ⟨(p.2, p.1 % p.2), none, (by refine ⟨rfl, rfl, ?_, ?_⟩ <;> ((repeat' (first | exact trivial | exact rfl | refine And.intro ?_ ?_)) <;> (try ((conv => whnf); first | refine vint ?_ | refine vboo ?_ | refine rint ?_ | refine rrow ?_ | skip)) <;> (try first | omega | (simp; done) | ((repeat rw [flts_closed _ (by assumption)]); exact vws_closed _ (by assumption))))), by rw [← hp]; exact gcd_step _ _, Nat.mod_lt _ (by omega)⟩
  · have h : (p.2 : Int) = 0 := by simpa using h
    have h : p.2 = 0 := by omega
    conv => whnf
    refine ⟨?_, rfl⟩
    rw [← hp, h, Nat.gcd_zero_right]
theorem l2Gcd_spec (a b : Nat) : FSpec Try.prog 244 [.c (.int .i64 (a)), .c (.int .i64 (b))] (ex (.c (.int .i64 (Nat.gcd a b))) []) := by
  refine fspec tyOk mx Try.func244 rfl (by kernel_rfl) rfl ?_
  conv => whnf
  refine aloopI tyOk mx (fun p : Nat × Nat => (⟨12, [(0, .c (.int .i64 (p.1))), (1, .c (.int .i64 (p.2)))], [], 0⟩ : St)) (fun p => Nat.gcd p.1 p.2 = Nat.gcd a b) (fun p => p.2) (a, b) rfl none (by refine ⟨rfl, rfl, ?_, ?_⟩ <;> ((repeat' (first | exact trivial | exact rfl | refine And.intro ?_ ?_)) <;> (try ((conv => whnf); first | refine vint ?_ | refine vboo ?_ | refine rint ?_ | refine rrow ?_ | skip)) <;> (try first | omega | (simp; done) | ((repeat rw [flts_closed _ (by assumption)]); exact vws_closed _ (by assumption))))) (fun p hp => ?_)
  refine ⟨fun h => ?_, fun h => ?_⟩
  · have h : (p.2 : Int) > 0 := of_decide_eq_true h
    conv => whnf
    refine ADraw.std tyOk mx ⟨by kernel_rfl, ?_⟩
    conv => whnf
    refine ⟨by omega, ?_⟩
    conv => whnf
    rw [tmodNat]
    exact ⟨(p.2, p.1 % p.2), none, (by refine ⟨rfl, rfl, ?_, ?_⟩ <;> ((repeat' (first | exact trivial | exact rfl | refine And.intro ?_ ?_)) <;> (try ((conv => whnf); first | refine vint ?_ | refine vboo ?_ | refine rint ?_ | refine rrow ?_ | skip)) <;> (try first | omega | (simp; done) | ((repeat rw [flts_closed _ (by assumption)]); exact vws_closed _ (by assumption))))), by rw [← hp]; exact gcd_step _ _, Nat.mod_lt _ (by omega)⟩
  · have h := of_decide_eq_false h
    have h : p.2 = 0 := by omega
    conv => whnf
    refine ⟨?_, rfl⟩
    rw [← hp, h, Nat.gcd_zero_right]

theorem l2Reduced_spec (z : Int) (m : List (List Int)) (hb : goodB 2 2 z m = true) :
    FSpec Try.prog 176 [.ag [.c (.int .i64 (2)), .c (.int .i64 (2)), .c (.int .i64 (z)), .t (.rows m)]] (ex (.ag [.c (.int .i64 (2)), .c (.int .i64 (2)), .c (.int .i64 (rdW z (gcM z m 4))), .own 0]) [(0, .rows 25 3 true (rdM m (gcM z m 4)))]) := by
  obtain ⟨na, nb, e1, e2, g1, g2, g3, g4, g5, g6, g7, g8, g9⟩ := goodB_spec hb
  obtain rfl : na = 2 := by omega
  obtain rfl : nb = 2 := by omega
  have h4 : ∀ r, r ∈ m → r.length = 4 := fun r hr => (g9 r hr).1
  have hz0 : z = ((gcM z m 0 : Nat) : Int) := by show z = ((z.toNat : Nat) : Int); omega
  refine fspec tyOk mx Try.func176 rfl (by kernel_rfl) rfl ?_
  conv => whnf
  refine aloopI tyOk mx (fun i : Nat => (⟨32, [(1, .ptr 0 0), (2, .ptr 1 0), (3, .c (.int .i64 (gcM z m i))), (4, .c (.int .i64 (i)))], [(0, .cells 53 [.c (.int .i64 (2)), .c (.int .i64 (2)), .c (.int .i64 (z)), .t (.rows m)]), (1, .cells 53 [.c (.int .i64 (0)), .c (.int .i64 (0)), .c (.int .i64 (0)), .c (.slice none 0 0)])], 2⟩ : St)) (fun i => i ≤ 4) (fun i => 4 - i) 0 (Nat.zero_le _) none (by refine ⟨rfl, rfl, ?_, ?_⟩ <;> ((repeat' (first | exact trivial | exact rfl | refine And.intro ?_ ?_)) <;> (try ((conv => whnf); first | refine vint ?_ | refine vboo ?_ | refine rint ?_ | refine rrow ?_ | skip)) <;> (try first | omega | (simp; done) | ((repeat rw [flts_closed _ (by assumption)]); exact vws_closed _ (by assumption))))) (fun i hi => ?_)
  have bi := gcM_bd z m g5 i
  refine ⟨fun h => ?_, fun h => ?_⟩
  · have h : i < 4 := by have := ltT h; omega
    have hr4 := h4 _ (getD_mem (d := []) (k := i) (by omega))
    have hv := (g9 _ (getD_mem (d := []) (k := i) (by omega))).2.1
    conv => whnf
    refine aloopI tyOk mx (fun n : Nat => (⟨32, [(1, .ptr 0 0), (2, .ptr 1 0), (3, .c (.int .i64 (gcR m i (gcM z m i) n))), (4, .c (.int .i64 (i))), (5, .c (.int .i64 (n)))], [(0, .cells 53 [.c (.int .i64 (2)), .c (.int .i64 (2)), .c (.int .i64 (z)), .t (.rows m)]), (1, .cells 53 [.c (.int .i64 (0)), .c (.int .i64 (0)), .c (.int .i64 (0)), .c (.slice none 0 0)])], 2⟩ : St)) (fun n => n ≤ 4) (fun n => 4 - n) 0 (Nat.zero_le _) none (by refine ⟨rfl, rfl, ?_, ?_⟩ <;> ((repeat' (first | exact trivial | exact rfl | refine And.intro ?_ ?_)) <;> (try ((conv => whnf); first | refine vint ?_ | refine vboo ?_ | refine rint ?_ | refine rrow ?_ | skip)) <;> (try first | omega | (simp; done) | ((repeat rw [flts_closed _ (by assumption)]); exact vws_closed _ (by assumption))))) (fun n hn => ?_)
    refine ⟨fun h5 => ?_, fun h5 => ?_⟩
    · have h5 : n < 4 := by have := of_decide_eq_true h5; omega
      have bv := hv _ (getD_mem (d := 0) (k := n) (by omega))
      have ev : (m.getD i []).getD n 0 = ((((m.getD i []).getD n 0).toNat : Nat) : Int) := by omega
      conv => whnf
      refine ⟨i, rfl, by omega, n, rfl, by omega, ?_⟩
      conv => whnf
      rw [ev]
      refine ACall.use (l2Gcd_spec _ _) ?_
      conv => whnf
      rw [nat_wrap (by omega)]
      exact ⟨n + 1, none, (by refine ⟨rfl, rfl, ?_, ?_⟩ <;> ((repeat' (first | exact trivial | exact rfl | refine And.intro ?_ ?_)) <;> (try ((conv => whnf); first | refine vint ?_ | refine vboo ?_ | refine rint ?_ | refine rrow ?_ | skip)) <;> (try first | omega | (simp; done) | ((repeat rw [flts_closed _ (by assumption)]); exact vws_closed _ (by assumption))))), by omega, by omega⟩
    · have h5 : ¬ n < 4 := by have := of_decide_eq_false h5; omega
      obtain rfl : n = 4 := by omega
      conv => whnf
      rw [nat_wrap (by omega)]
      exact ⟨i + 1, none, (by refine ⟨rfl, rfl, ?_, ?_⟩ <;> ((repeat' (first | exact trivial | exact rfl | refine And.intro ?_ ?_)) <;> (try ((conv => whnf); first | refine vint ?_ | refine vboo ?_ | refine rint ?_ | refine rrow ?_ | skip)) <;> (try first | omega | (simp; done) | ((repeat rw [flts_closed _ (by assumption)]); exact vws_closed _ (by assumption))))), by omega, by omega⟩
  · have h : ¬ i < 4 := by have := ltF h; omega
    obtain rfl : i = 4 := by omega
    have hw : ∀ v : Int, 0 ≤ v → v ≤ 1000 → W (v * 1) = v := fun v h1 h2 => by rw [Int.mul_one]; exact w64 (by omega) (by omega)
    have er : timesL m 1 ((gcM z m 4 : Nat) : Int) = rdM m (gcM z m 4) := by
      rw [rdM, mat_rows, ← mat_eta (M := timesL m 1 ((gcM z m 4 : Nat) : Int)) (by rw [timesL_len]; omega) (fun r hr => by
        obtain ⟨c, hc, rfl⟩ := List.mem_map.1 hr
        rw [timesR, List.length_map]; exact h4 c hc)]
      refine mat_congr fun p q hp hq => ?_
      have hv := (g9 _ (getD_mem (d := []) (k := p) (by omega)))
      have bv := hv.2.1 _ (getD_mem (d := 0) (k := q) (by omega))
      rw [times_get (by omega) h4 _ _ hp hq, hw _ bv.1 (by omega), rdNum, show p / 2 * 2 + p % 2 = p by omega, show 2 * (q / 2) + q % 2 = q by omega]
    conv => whnf
    refine ACall.use (l2Times_spec 2 2 z m 1 ((gcM z m 4 : Nat) : Int) (by omega) (by omega) (fun r hr => by rw [h4 r hr]; omega)) ?_
    conv => whnf
    refine ⟨?_, ?_⟩
    · rw [hw z (by omega) (by omega)]; rfl
    · rw [er]
end Go.Proofs.Ytkomndcehdneaaa
/- Boxes of any sizes, reduced: reference and program. -/
namespace Go.Aw
def rdgN (m : List (List Int)) (g : Nat) (p q : Nat) : Int := W (Int.tdiv ((m.getD p []).getD q 0) g)
end Go.Aw
namespace Go.Proofs.Ytkomndcehdneaaa
open Go.Aw
set_option maxRecDepth 100000
set_option maxHeartbeats 4000000
def rdgR (x y z : Int) (m : List (List Int)) : List (List Int) := if goodB x y z m then grid m.length (rdgN m (gcM z m m.length)) else []
theorem l2ReducedG_spec (x y z : Int) (m : List (List Int)) (hb : goodB x y z m = true) :
    FSpec Try.prog 176 [.ag [.c (.int .i64 (x)), .c (.int .i64 (y)), .c (.int .i64 (z)), .t (.rows m)]] (ex (.ag [.c (.int .i64 (x)), .c (.int .i64 (y)), .c (.int .i64 (rdW z (gcM z m m.length))), .own 0]) [(0, .rows 25 3 true (grid m.length (rdgN m (gcM z m m.length))))]) := by
  obtain ⟨na, nb, e1, e2, g1, g2, g3, g4, g5, g6, g7, g8, g9⟩ := goodB_spec hb
  have h4 : ∀ r, r ∈ m → r.length = 4 := fun r hr => (g9 r hr).1
  have hz0 : z = ((gcM z m 0 : Nat) : Int) := by show z = ((z.toNat : Nat) : Int); omega
  refine fspec tyOk mx Try.func176 rfl (by kernel_rfl) rfl ?_
  conv => whnf
  refine aloopI tyOk mx (fun i : Nat => (⟨32, [(1, .ptr 0 0), (2, .ptr 1 0), (3, .c (.int .i64 (gcM z m i))), (4, .c (.int .i64 (i)))], [(0, .cells 53 [.c (.int .i64 (x)), .c (.int .i64 (y)), .c (.int .i64 (z)), .t (.rows m)]), (1, .cells 53 [.c (.int .i64 (0)), .c (.int .i64 (0)), .c (.int .i64 (0)), .c (.slice none 0 0)])], 2⟩ : St)) (fun i => i ≤ m.length) (fun i => m.length - i) 0 (Nat.zero_le _) none (by refine ⟨rfl, rfl, ?_, ?_⟩ <;> ((repeat' (first | exact trivial | exact rfl | refine And.intro ?_ ?_)) <;> (try ((conv => whnf); first | refine vint ?_ | refine vboo ?_ | refine rint ?_ | refine rrow ?_ | skip)) <;> (try first | omega | (simp; done) | ((repeat rw [flts_closed _ (by assumption)]); exact vws_closed _ (by assumption))))) (fun i hi => ?_)
  have bi := gcM_bd z m g5 i
  refine ⟨fun h => ?_, fun h => ?_⟩
  · have h : i < m.length := by have := ltT h; omega
    have hr4 := h4 _ (getD_mem (d := []) (k := i) (by omega))
    have hv := (g9 _ (getD_mem (d := []) (k := i) (by omega))).2.1
    conv => whnf
    refine aloopI tyOk mx (fun n : Nat => (⟨32, [(1, .ptr 0 0), (2, .ptr 1 0), (3, .c (.int .i64 (gcR m i (gcM z m i) n))), (4, .c (.int .i64 (i))), (5, .c (.int .i64 (n)))], [(0, .cells 53 [.c (.int .i64 (x)), .c (.int .i64 (y)), .c (.int .i64 (z)), .t (.rows m)]), (1, .cells 53 [.c (.int .i64 (0)), .c (.int .i64 (0)), .c (.int .i64 (0)), .c (.slice none 0 0)])], 2⟩ : St)) (fun n => n ≤ 4) (fun n => 4 - n) 0 (Nat.zero_le _) none (by refine ⟨rfl, rfl, ?_, ?_⟩ <;> ((repeat' (first | exact trivial | exact rfl | refine And.intro ?_ ?_)) <;> (try ((conv => whnf); first | refine vint ?_ | refine vboo ?_ | refine rint ?_ | refine rrow ?_ | skip)) <;> (try first | omega | (simp; done) | ((repeat rw [flts_closed _ (by assumption)]); exact vws_closed _ (by assumption))))) (fun n hn => ?_)
    refine ⟨fun h5 => ?_, fun h5 => ?_⟩
    · have h5 : n < 4 := by have := of_decide_eq_true h5; omega
      have bv := hv _ (getD_mem (d := 0) (k := n) (by omega))
      have ev : (m.getD i []).getD n 0 = ((((m.getD i []).getD n 0).toNat : Nat) : Int) := by omega
      conv => whnf
      refine ⟨i, rfl, by omega, n, rfl, by omega, ?_⟩
      conv => whnf
      rw [ev]
      refine ACall.use (l2Gcd_spec _ _) ?_
      conv => whnf
      rw [nat_wrap (by omega)]
      exact ⟨n + 1, none, (by refine ⟨rfl, rfl, ?_, ?_⟩ <;> ((repeat' (first | exact trivial | exact rfl | refine And.intro ?_ ?_)) <;> (try ((conv => whnf); first | refine vint ?_ | refine vboo ?_ | refine rint ?_ | refine rrow ?_ | skip)) <;> (try first | omega | (simp; done) | ((repeat rw [flts_closed _ (by assumption)]); exact vws_closed _ (by assumption))))), by omega, by omega⟩
    · have h5 : ¬ n < 4 := by have := of_decide_eq_false h5; omega
      obtain rfl : n = 4 := by omega
      conv => whnf
      rw [nat_wrap (by omega)]
      exact ⟨i + 1, none, (by refine ⟨rfl, rfl, ?_, ?_⟩ <;> ((repeat' (first | exact trivial | exact rfl | refine And.intro ?_ ?_)) <;> (try ((conv => whnf); first | refine vint ?_ | refine vboo ?_ | refine rint ?_ | refine rrow ?_ | skip)) <;> (try first | omega | (simp; done) | ((repeat rw [flts_closed _ (by assumption)]); exact vws_closed _ (by assumption))))), by omega, by omega⟩
  · have h : ¬ i < m.length := by have := ltF h; omega
    obtain rfl : i = m.length := by omega
    have hw : ∀ v : Int, 0 ≤ v → v ≤ 1000 → W (v * 1) = v := fun v h1 h2 => by rw [Int.mul_one]; exact w64 (by omega) (by omega)
    have er : timesL m 1 ((gcM z m m.length : Nat) : Int) = grid m.length (rdgN m (gcM z m m.length)) := by
      rw [timesG h4]
      refine grid_congr fun p q hp hq => ?_
      have hr := h4 _ (getD_mem (d := []) hp)
      have bv := (g9 _ (getD_mem (d := []) hp)).2.1 _ (getD_mem (d := 0) (k := q) (by omega))
      rw [hw _ bv.1 (by omega)]; rfl
    conv => whnf
    refine ACall.use (l2Times_spec x y z m 1 ((gcM z m m.length : Nat) : Int) (by omega) (by omega) (fun r hr => by rw [h4 r hr]; omega)) ?_
    conv => whnf
    refine ⟨?_, ?_⟩
    · rw [hw z (by omega) (by omega)]; rfl
    · rw [er]
theorem ReduceBoxG_s (x y z : Int) (m : List (List Int)) (km : SzM m) :
    FSpec Try.prog 56 [.ag [.c (.int .i64 (x)), .c (.int .i64 (y)), .c (.int .i64 (z)), .t (.rows m)]] (ex (.tu [.ag [.c (.int .i64 (if goodB x y z m then x else 0)), .c (.int .i64 (if goodB x y z m then y else 0)), .c (.int .i64 (if goodB x y z m then rdW z (gcM z m m.length) else 0)), .own 0], .c (.bool (goodB x y z m))]) [(0, .rows 25 3 true (rdgR x y z m))]) := by
  refine view_box ?_
  refine fspec tyOk mx Try.func56 rfl (by kernel_rfl) rfl ?_
  conv => whnf
  refine ACall.use (l2Box_spec x y z m km) ?_
  conv => whnf
  refine ⟨fun h => ?_, fun h => ?_⟩
  · have h : goodB x y z m = false := by simpa using h
    conv => whnf
    exact .inl ⟨h, rfl, rfl⟩
  · have h : goodB x y z m = true := by simpa using h
    conv => whnf
    refine ACall.use (l2ReducedG_spec x y z m h) ?_
    conv => whnf
    exact .inr ⟨h, rfl, rfl⟩
theorem rdgN_spec (m : List (List Int)) (nx ny : Nat) (hm : m.length = nx * ny) (hn : nx * ny ≤ 9) (h4 : ∀ r, r ∈ m → r.length = 4) (z : Int) (g : Nat) (hg : 0 < g) (x y a b : Nat) (hx : x < nx) (hy : y < ny) (ha : a < 2) (hb : b < 2) :
    FSpec Try.prog 175 [.c (.int .i64 (x)), .c (.int .i64 (y)), .c (.int .i64 (a)), .c (.int .i64 (b)), .rp [.c (.int .i64 (nx)), .c (.int .i64 (ny)), .c (.int .i64 (z)), .t (.rows m)] 0, .rp [.c (.int .i64 (g))] 0] (ex (.c (.int .i64 (rdgN m g (x * ny + y) (2 * a + b)))) []) := by
  have hix := ix_lt hx hy
  have hr2 := h4 _ (getD_mem (d := []) (show x * ny + y < m.length by omega))
  refine fspec tyOk mx Try.func175 rfl (by kernel_rfl) rfl ?_
  conv => whnf
  refine ADraw.plan tyOk mx (.q 0 (.q 1 (.q 2 (.q 3 (.q 4 (.q 6 (.last 5 (.q 7 (.q 8 (.done))))))))) : Plan) (by kernel_rfl) ?_
  conv => whnf
  refine ACall.useR (at_spec nx ny x y a b z m (by omega) (by omega) (by omega) (by omega)) ?_
  conv => whnf
  refine ⟨by omega, ?_⟩
  conv => whnf
  exact ⟨rfl, rfl⟩
theorem ReduceBoxG_i (x y z : Int) (m : List (List Int)) (km : SzM m) :
    FSpec Try.prog 55 [.ag [.c (.int .i64 (x)), .c (.int .i64 (y)), .c (.int .i64 (z)), .t (.rows m)]] (ex (.tu [.ag [.c (.int .i64 (if goodB x y z m then x else 0)), .c (.int .i64 (if goodB x y z m then y else 0)), .c (.int .i64 (if goodB x y z m then rdW z (gcM z m m.length) else 0)), .own 0], .c (.bool (goodB x y z m))]) [(0, .rows 25 3 true (rdgR x y z m))]) := by
  refine view_box ?_
  refine fspec tyOk mx Try.func55 rfl (by kernel_rfl) rfl ?_
  conv => whnf
  refine ACall.use (IsBox_spec x y z m km) ?_
  conv => whnf
  refine ⟨fun h => ?_, fun h => ?_⟩
  · have h : goodB x y z m = false := by simpa using h
    conv => whnf
    exact .inl ⟨h, rfl, rfl⟩
  · have h : goodB x y z m = true := by simpa using h
    obtain ⟨na, nb, e1, e2, g1, g2, g3, g4, g5, g6, g7, g8, g9⟩ := goodB_spec h
    have h4 : ∀ r, r ∈ m → r.length = 4 := fun r hr => (g9 r hr).1
    have h0 := h
    have hz0 : z = ((gcM z m 0 : Nat) : Int) := by show z = ((z.toNat : Nat) : Int); omega
    conv => whnf
    refine aloopI tyOk mx (fun i : Nat => (⟨43, [(1, .ptr 0 0), (2, .ptr 1 0), (4, .ptr 2 0), (16, .t (.rows m)), (17, .c (.int .i64 (m.length))), (18, .c (.int .i64 (i)))], [(0, .cells 53 [.c (.int .i64 (x)), .c (.int .i64 (y)), .c (.int .i64 (z)), .t (.rows m)]), (1, .cells 53 [.c (.int .i64 (0)), .c (.int .i64 (0)), .c (.int .i64 (0)), .c (.slice none 0 0)]), (2, .cells 3 [.c (.int .i64 (gcM z m i))])], 3⟩ : St)) (fun i => i ≤ m.length) (fun i => m.length - i) 0 (Nat.zero_le _) none (by refine ⟨rfl, rfl, ?_, ?_⟩ <;> ((repeat' (first | exact trivial | exact rfl | refine And.intro ?_ ?_)) <;> (try ((conv => whnf); first | refine vint ?_ | refine vboo ?_ | refine rint ?_ | refine rrow ?_ | skip)) <;> (try first | omega | (simp; done) | ((repeat rw [flts_closed _ (by assumption)]); exact vws_closed _ (by assumption))))) (fun i hi => ?_)
    have bi := gcM_bd z m g5 i
    refine ⟨fun h => ?_, fun h => ?_⟩
    · have h : i < m.length := by have := ltT h; omega
      have hr4 := h4 _ (getD_mem (d := []) (k := i) (by omega))
      have hv := (g9 _ (getD_mem (d := []) (k := i) (by omega))).2.1
      conv => whnf
      refine ⟨i, rfl, by omega, ?_⟩
      conv => whnf
      refine aloopI tyOk mx (fun n : Nat => (⟨43, [(1, .ptr 0 0), (2, .ptr 1 0), (4, .ptr 2 0), (16, .t (.rows m)), (17, .c (.int .i64 (m.length))), (18, .c (.int .i64 (i))), (22, .t (.ints .i64 (m.getD i []))), (23, .c (.int .i64 ((m.getD i []).length))), (24, .c (.int .i64 (n)))], [(0, .cells 53 [.c (.int .i64 (x)), .c (.int .i64 (y)), .c (.int .i64 (z)), .t (.rows m)]), (1, .cells 53 [.c (.int .i64 (0)), .c (.int .i64 (0)), .c (.int .i64 (0)), .c (.slice none 0 0)]), (2, .cells 3 [.c (.int .i64 (gcR m i (gcM z m i) n))])], 3⟩ : St)) (fun n => n ≤ 4) (fun n => 4 - n) 0 (Nat.zero_le _) none (by refine ⟨rfl, rfl, ?_, ?_⟩ <;> ((repeat' (first | exact trivial | exact rfl | refine And.intro ?_ ?_)) <;> (try ((conv => whnf); first | refine vint ?_ | refine vboo ?_ | refine rint ?_ | refine rrow ?_ | skip)) <;> (try first | omega | (simp; done) | ((repeat rw [flts_closed _ (by assumption)]); exact vws_closed _ (by assumption))))) (fun n hn => ?_)
      refine ⟨fun h5 => ?_, fun h5 => ?_⟩
      · have h5 : n < 4 := by have := ltT h5; omega
        have bv := hv _ (getD_mem (d := 0) (k := n) (by omega))
        have ev : (m.getD i []).getD n 0 = ((((m.getD i []).getD n 0).toNat : Nat) : Int) := by omega
        conv => whnf
        refine ⟨n, rfl, by omega, ?_⟩
        conv => whnf
        rw [ev]
        refine ACall.use (divisor_spec _ _) ?_
        conv => whnf
        rw [nat_wrap (by omega)]
        exact ⟨n + 1, none, (by refine ⟨rfl, rfl, ?_, ?_⟩ <;> ((repeat' (first | exact trivial | exact rfl | refine And.intro ?_ ?_)) <;> (try ((conv => whnf); first | refine vint ?_ | refine vboo ?_ | refine rint ?_ | refine rrow ?_ | skip)) <;> (try first | omega | (simp; done) | ((repeat rw [flts_closed _ (by assumption)]); exact vws_closed _ (by assumption))))), by omega, by omega⟩
      · have h5 : ¬ n < 4 := by have := ltF h5; omega
        obtain rfl : n = 4 := by omega
        conv => whnf
        rw [nat_wrap (by omega)]
        exact ⟨i + 1, none, (by refine ⟨rfl, rfl, ?_, ?_⟩ <;> ((repeat' (first | exact trivial | exact rfl | refine And.intro ?_ ?_)) <;> (try ((conv => whnf); first | refine vint ?_ | refine vboo ?_ | refine rint ?_ | refine rrow ?_ | skip)) <;> (try first | omega | (simp; done) | ((repeat rw [flts_closed _ (by assumption)]); exact vws_closed _ (by assumption))))), by omega, by omega⟩
    · have h : ¬ i < m.length := by have := ltF h; omega
      obtain rfl : i = m.length := by omega
      subst e1 e2
      generalize hG : gcM z m m.length = G at *
      conv => whnf
      refine ADraw.plan tyOk mx (.q 0 (.q 1 (.q 2 (.q 3 (.q 4 (.q 5 (.q 6 (.q 7 (.q 8 (.last 9 (.last 10 (.q 11 (.done)))))))))))) : Plan) (by kernel_rfl) ?_
      conv => whnf
      refine ⟨by omega, ?_⟩
      conv => whnf
      refine ACall.useR (newBox_spec na nb (rdW z G) _ [.rp [.c (.int .i64 (na)), .c (.int .i64 (nb)), .c (.int .i64 (z)), .t (.rows m)] 0, .rp [.c (.int .i64 (G))] 0] (fun x y a b => rdgN m G (x * nb + y) (2 * a + b)) (by omega) (by omega) (fun _ _ => rfl) rfl (fun i k' a b hi hk ha hb => rdgN_spec m na nb g7 g8 h4 z G (by omega) i k' a b hi hk ha hb)) ?_
      rw [box_grid, ← g7]
      conv => whnf
      exact .inr ⟨h0, rfl, rfl⟩
end Go.Proofs.Ytkomndcehdneaaa
/- Games as arguments: sizes, copies, comparing, marks. -/
namespace Go.Proofs.Ytkomndcehdneaaa
open Go.Aw
set_option maxRecDepth 100000

def szGameF (s : List Int) (m : List (List Int)) (left : Int) : Int := if szS s left < 0 then -1 else if szSS m (szS s left) < 0 then -1 else szSS m (szS s left)
theorem szGame_tot {m : List (List Int)} {s : List Int} {left : Int} (h : 0 ≤ szGameF s m left) : 0 ≤ szGameF s m left ∧ szGameF s m left = left - s.length - m.length - tot m := by
  refine ⟨h, ?_⟩
  unfold szGameF at h ⊢
  split at h
  · omega
  · rename_i hn
    rw [if_neg hn]
    split at h
    · omega
    · rename_i hn2
      rw [if_neg hn2, (szSS_tot (Int.not_lt.1 hn2)).2]
      have : szS s left = left - s.length := by
        unfold szS at hn ⊢
        split at hn
        · omega
        · rename_i h4; rw [if_neg h4]
      omega


end Go.Proofs.Ytkomndcehdneaaa
/- Which games are valid: reference and program. -/
namespace Go.Proofs.Ytkomndcehdneaaa
open Go.Aw
set_option maxRecDepth 100000
set_option maxHeartbeats 4000000

def winOk (r : List Int) : Bool := decide (r.length = 4) && rowIn r 0 1
def goodG (x y : Int) (s : List Int) (m : List (List Int)) : Bool :=
  szOk x y && decide ((s.length : Int) = x * y) && decide ((m.length : Int) = x * y) && rowIn s 0 99 && decide (0 < sumF s s.length) && m.all winOk

theorem goodG_spec {x y : Int} {s : List Int} {m : List (List Int)} (h : goodG x y s m = true) : ∃ a b : Nat, x = a ∧ y = b ∧ 1 ≤ a ∧ a ≤ 3 ∧ 1 ≤ b ∧ b ≤ 3 ∧ s.length = a * b ∧ m.length = a * b ∧ a * b ≤ 9 ∧
    (∀ v, v ∈ s → 0 ≤ v ∧ v ≤ 99) ∧ 0 < sumF s s.length ∧ (∀ r, r ∈ m → r.length = 4 ∧ ∀ v, v ∈ r → 0 ≤ v ∧ v ≤ 1) := by
  simp only [goodG, Bool.and_eq_true, decide_eq_true_eq, List.all_eq_true, winOk, rowIn_iff] at h
  obtain ⟨⟨⟨⟨⟨h1, h2⟩, h3⟩, h4⟩, h5⟩, h6⟩ := h
  obtain ⟨a, b, rfl, rfl, g1, g2, g3, g4, g5, g6⟩ := szOk_nat h1
  rw [g5] at h2 h3
  exact ⟨a, b, rfl, rfl, g1, g2, g3, g4, by omega, by omega, g6, h4, h5, h6⟩

theorem l4Game_spec (x y : Int) (s : List Int) (m : List (List Int)) (ks : SzI s) (km : SzM m) :
    FSpec Try.prog 200 [.ag [.c (.int .i64 x), .c (.int .i64 y), .t (.ints .i64 s), .t (.rows m)]] (ex (.c (.bool (goodG x y s m))) []) := by
  obtain ⟨i, j, z⟩ := km.all
  have ks' : s.length ≤ 1048576 := ks
  refine fspec tyOk mx Try.func200 rfl (by kernel_rfl) rfl ?_
  conv => whnf
  refine ACall.use (l2Sizes_spec _ _) ?_
  conv => whnf
  refine ⟨fun h1 => ?_, fun h1 => ?_⟩
  · have h1 : szOk x y = true := by simpa using h1
    conv => whnf
    refine ⟨fun h2 => ?_, fun h2 => ?_⟩
    · rw [szOk_mul h1] at h2
      have h2 : (s.length : Int) = x * y := by simpa using h2
      conv => whnf
      refine ⟨fun h3 => ?_, fun h3 => ?_⟩
      · rw [szOk_mul h1] at h3
        have h3 : ¬ (m.length : Int) = x * y := by simpa using h3
        conv => whnf
        exact ⟨by rw [goodG, decide_eq_false h3]; simp, rfl⟩
      · rw [szOk_mul h1] at h3
        have h3 : (m.length : Int) = x * y := by simpa using h3
        have hsm : m.length = s.length := by omega
        have hsl : s.length ≤ 9 := by obtain ⟨a, b, _, _, _, _, _, _, h5, h6⟩ := szOk_nat h1; omega
        conv => whnf
        refine aloopI tyOk mx (fun k : Nat => (⟨65, [(1, .ptr 0 0), (3, .c (.int .i64 (sumF s k))), (4, .c (.int .i64 (k)))], [(0, .cells 84 [.c (.int .i64 (x)), .c (.int .i64 (y)), .t (.ints .i64 s), .t (.rows m)])], 1⟩ : St)) (fun k => k ≤ s.length ∧ (s.take k).all (fun x => inR x 0 99) = true ∧ (m.take k).all winOk = true) (fun k => s.length - k) 0 ⟨Nat.zero_le _, rfl, rfl⟩ none (by refine ⟨rfl, rfl, ?_, ?_⟩ <;> ((repeat' (first | exact trivial | exact rfl | refine And.intro ?_ ?_)) <;> (try ((conv => whnf); first | refine vint ?_ | refine vboo ?_ | refine rint ?_ | refine rrow ?_ | skip)) <;> (try first | omega | (simp; done) | ((repeat rw [flts_closed _ (by assumption)]); exact vws_closed _ (by assumption))))) (fun k hI => ?_)
        obtain ⟨hk, hp, hq⟩ := hI
        refine ⟨fun h => ?_, fun h => ?_⟩
        · have h := ltT h
          have hm' : k < m.length := by omega
          conv => whnf
          refine ⟨k, rfl, h, ?_⟩
          conv => whnf
          refine ACall.use (l1In_spec _ _ _) ?_
          conv => whnf
          refine ⟨fun h4 => ?_, fun h4 => ?_⟩
          · have h4 : inR (s.getD k 0) 0 99 = true := by simpa using h4
            conv => whnf
            refine ⟨k, rfl, hm', ?_⟩
            conv => whnf
            refine ACall.use (l2Bits_spec (m.getD k []) 4 (by have := j _ (getD_mem (d := []) hm'); omega)) ?_
            conv => whnf
            have e4 : (rowIn (m.getD k []) 0 1 && decide (((m.getD k []).length : Int) = 4)) = winOk (m.getD k []) := by
              rw [winOk, Bool.and_comm]; congr 1; exact decide_eq_decide.2 (by omega)
            refine ⟨fun h5 => ?_, fun h5 => ?_⟩
            · rw [e4] at h5
              conv => whnf
              exact ⟨by rw [goodG, all_false (d := []) hm' (by simpa using h5), Bool.and_false], rfl⟩
            · rw [e4] at h5
              conv => whnf
              refine ⟨k, rfl, h, ?_⟩
              conv => whnf
              rw [nat_wrap (by omega)]
              exact ⟨k + 1, none, (by refine ⟨rfl, rfl, ?_, ?_⟩ <;> ((repeat' (first | exact trivial | exact rfl | refine And.intro ?_ ?_)) <;> (try ((conv => whnf); first | refine vint ?_ | refine vboo ?_ | refine rint ?_ | refine rrow ?_ | skip)) <;> (try first | omega | (simp; done) | ((repeat rw [flts_closed _ (by assumption)]); exact vws_closed _ (by assumption))))), ⟨by omega, all_take_succ (d := 0) h hp h4, all_take_succ (d := []) hm' hq (by simpa using h5)⟩, by omega⟩
          · have h4 : inR (s.getD k 0) 0 99 = false := by simpa using h4
            (repeat (conv => whnf); (first | refine ⟨fun h => absurd h (by decide), fun _ => ?_⟩ | refine ⟨fun _ => ?_, fun h => absurd h (by decide)⟩)); conv => whnf
            exact ⟨by rw [goodG, rowIn, all_false (d := 0) h h4]; simp, rfl⟩
        · have h := ltF h
          have hs := all_end h hp
          have hm2 := all_end (by omega) hq
          obtain rfl : k = s.length := by omega
          conv => whnf
          refine ⟨?_, rfl⟩
          rw [goodG, h1, decide_eq_true h2, decide_eq_true h3, hm2, rowIn, hs]
          simp
    · rw [szOk_mul h1] at h2
      have h2 : ¬ (s.length : Int) = x * y := by simpa using h2
      (repeat (conv => whnf); (first | refine ⟨fun h => absurd h (by decide), fun _ => ?_⟩ | refine ⟨fun _ => ?_, fun h => absurd h (by decide)⟩)); conv => whnf
      exact ⟨by rw [goodG, decide_eq_false h2]; simp, rfl⟩
  · have h1 : szOk x y = false := by simpa using h1
    (repeat (conv => whnf); (first | refine ⟨fun h => absurd h (by decide), fun _ => ?_⟩ | refine ⟨fun _ => ?_, fun h => absurd h (by decide)⟩)); conv => whnf
    exact ⟨by rw [goodG, h1]; simp, rfl⟩

theorem iIsGame_spec (x y : Int) (s : List Int) (m : List (List Int)) (ks : SzI s) (km : SzM m) :
    FSpec Try.prog 198 [.ag [.c (.int .i64 x), .c (.int .i64 y), .t (.ints .i64 s), .t (.rows m)]] (ex (.c (.bool (goodG x y s m))) []) := by
  obtain ⟨i, j, z⟩ := km.all
  have ks' : s.length ≤ 1048576 := ks
  refine fspec tyOk mx Try.func198 rfl (by kernel_rfl) rfl ?_
  conv => whnf
  refine ACall.use (areQuestions_spec _ _) ?_
  conv => whnf
  refine ⟨fun h1 => ?_, fun h1 => ?_⟩
  · have h1 : szOk x y = true := by simpa using h1
    conv => whnf
    refine ⟨fun h2 => ?_, fun h2 => ?_⟩
    · rw [szOk_mul h1] at h2
      have h2 : (s.length : Int) = x * y := by simpa using h2
      have hsl : s.length ≤ 9 := by obtain ⟨a, b, _, _, _, _, _, _, h5, h6⟩ := szOk_nat h1; omega
      conv => whnf
      refine ACall.use (allWithin_spec s _ _ (by omega)) ?_
      conv => whnf
      refine ⟨fun h4 => ?_, fun h4 => ?_⟩
      · have h4 : rowIn s 0 99 = true := by simpa using h4
        have hbd := sumF_bd (rowIn_iff.1 h4) (by omega) s.length (Nat.le_refl _)
        conv => whnf
        refine ACall.use (total_spec s ks') ?_
        conv => whnf
        refine ⟨fun h5 => ?_, fun h5 => ?_⟩
        · have h5 : 0 < sumF s s.length := by simp at h5; omega
          conv => whnf
          refine ⟨fun h3 => ?_, fun h3 => ?_⟩
          · rw [szOk_mul h1] at h3
            have h3 : ¬ (m.length : Int) = x * y := by simpa using h3
            conv => whnf
            exact ⟨by rw [goodG, decide_eq_false h3]; simp, rfl⟩
          · rw [szOk_mul h1] at h3
            have h3 : (m.length : Int) = x * y := by simpa using h3
            conv => whnf
            refine aloopI tyOk mx (fun k : Nat => (⟨59, [(1, .ptr 0 0), (44, .t (.rows m)), (45, .c (.int .i64 (m.length))), (46, .c (.int .i64 (k)))], [(0, .cells 84 [.c (.int .i64 (x)), .c (.int .i64 (y)), .t (.ints .i64 s), .t (.rows m)])], 1⟩ : St)) (fun k => k ≤ m.length ∧ (m.take k).all winOk = true) (fun k => m.length - k) 0 ⟨Nat.zero_le _, rfl⟩ none (by refine ⟨rfl, rfl, ?_, ?_⟩ <;> ((repeat' (first | exact trivial | exact rfl | refine And.intro ?_ ?_)) <;> (try ((conv => whnf); first | refine vint ?_ | refine vboo ?_ | refine rint ?_ | refine rrow ?_ | skip)) <;> (try first | omega | (simp; done) | ((repeat rw [flts_closed _ (by assumption)]); exact vws_closed _ (by assumption))))) (fun k hI => ?_)
            obtain ⟨hk, hp⟩ := hI
            refine ⟨fun h => ?_, fun h => ?_⟩
            · have h := ltT h
              conv => whnf
              refine ⟨k, rfl, h, ?_⟩
              conv => whnf
              refine ⟨fun h6 => ?_, fun h6 => ?_⟩
              · have h6 : (m.getD k []).length = 4 := by rw [bne_eq_false_iff_eq] at h6; omega
                conv => whnf
                refine ACall.use (allWithin_spec (m.getD k []) _ _ (by omega)) ?_
                conv => whnf
                refine ⟨fun h7 => ?_, fun h7 => ?_⟩
                · have h7 : rowIn (m.getD k []) 0 1 = false := by simpa using h7
                  conv => whnf
                  exact ⟨by rw [goodG, all_false (d := []) h (by rw [winOk, h7, Bool.and_false]), Bool.and_false], rfl⟩
                · have h7 : rowIn (m.getD k []) 0 1 = true := by simpa using h7
                  conv => whnf
                  rw [nat_wrap (by omega)]
                  exact ⟨k + 1, none, (by refine ⟨rfl, rfl, ?_, ?_⟩ <;> ((repeat' (first | exact trivial | exact rfl | refine And.intro ?_ ?_)) <;> (try ((conv => whnf); first | refine vint ?_ | refine vboo ?_ | refine rint ?_ | refine rrow ?_ | skip)) <;> (try first | omega | (simp; done) | ((repeat rw [flts_closed _ (by assumption)]); exact vws_closed _ (by assumption))))), ⟨by omega, all_take_succ (d := []) h hp (by rw [winOk, h7, h6]; rfl)⟩, by omega⟩
              · have h6 : ¬ (m.getD k []).length = 4 := by rw [bne_iff_ne] at h6; omega
                (repeat (conv => whnf); (first | refine ⟨fun h => absurd h (by decide), fun _ => ?_⟩ | refine ⟨fun _ => ?_, fun h => absurd h (by decide)⟩)); conv => whnf
                exact ⟨by rw [goodG, all_false (d := []) h (by rw [winOk, decide_eq_false h6, Bool.false_and]), Bool.and_false], rfl⟩
            · have h := ltF h
              have hm2 := all_end h hp
              conv => whnf
              refine ⟨?_, rfl⟩
              rw [goodG, h1, decide_eq_true h2, decide_eq_true h3, hm2, h4, decide_eq_true h5]
              rfl
        · have h5 : ¬ 0 < sumF s s.length := by simp at h5; omega
          (repeat (conv => whnf); (first | refine ⟨fun h => absurd h (by decide), fun _ => ?_⟩ | refine ⟨fun _ => ?_, fun h => absurd h (by decide)⟩)); conv => whnf
          exact ⟨by rw [goodG, decide_eq_false h5]; simp, rfl⟩
      · have h4 : rowIn s 0 99 = false := by simpa using h4
        (repeat (conv => whnf); (first | refine ⟨fun h => absurd h (by decide), fun _ => ?_⟩ | refine ⟨fun _ => ?_, fun h => absurd h (by decide)⟩)); conv => whnf
        exact ⟨by rw [goodG, h4]; simp, rfl⟩
    · rw [szOk_mul h1] at h2
      have h2 : ¬ (s.length : Int) = x * y := by simpa using h2
      (repeat (conv => whnf); (first | refine ⟨fun h => absurd h (by decide), fun _ => ?_⟩ | refine ⟨fun _ => ?_, fun h => absurd h (by decide)⟩)); conv => whnf
      exact ⟨by rw [goodG, decide_eq_false h2]; simp, rfl⟩
  · have h1 : szOk x y = false := by simpa using h1
    (repeat (conv => whnf); (first | refine ⟨fun h => absurd h (by decide), fun _ => ?_⟩ | refine ⟨fun _ => ?_, fun h => absurd h (by decide)⟩)); conv => whnf
    exact ⟨by rw [goodG, h1]; simp, rfl⟩
end Go.Proofs.Ytkomndcehdneaaa
/- Scores of plays: reference and program. -/
namespace Go.Aw
def bitIx (p : List Int) (n i k : Nat) : Nat := (2 * p.getD i 0 + p.getD (n + k) 0).toNat
theorem bits_mem {p : List Int} (h : ∀ v, v ∈ p → 0 ≤ v ∧ v ≤ 1) {i : Nat} : 0 ≤ p.getD i 0 ∧ p.getD i 0 ≤ 1 := by
  by_cases hi : i < p.length
  · exact h _ (by rw [List.getD_eq_getElem?_getD, List.getElem?_eq_getElem hi]; exact List.getElem_mem _)
  · rw [List.getD_eq_getElem?_getD, List.getElem?_eq_none (by omega)]; simp
theorem bitIx_eq {p : List Int} (h : ∀ v, v ∈ p → 0 ≤ v ∧ v ≤ 1) (n i k : Nat) : IntKind.i64.wrap (IntKind.i64.wrap (2 * p.getD i 0) + p.getD (n + k) 0) = ((bitIx p n i k : Nat) : Int) ∧ bitIx p n i k < 4 := by
  have h1 := bits_mem h (i := i)
  have h2 := bits_mem h (i := n + k)
  unfold bitIx
  rw [w64 (n := 2 * p.getD i 0) (by omega) (by omega), w64 (by omega) (by omega)]
  omega
def wonAt (s : List Int) (m : List (List Int)) (p : List Int) (nx ny i k : Nat) : Int := W (s.getD (i * ny + k) 0 * (m.getD (i * ny + k) []).getD (bitIx p nx i k) 0)
def scoreRow (s : List Int) (m : List (List Int)) (p : List Int) (nx ny i : Nat) (a : Int) (n : Nat) : Int := fo (fun a k => W (a + wonAt s m p nx ny i k)) a n
def scoreTo (s : List Int) (m : List (List Int)) (p : List Int) (nx ny n : Nat) : Int := fo (fun a i => scoreRow s m p nx ny i a ny) 0 n
def pwRow (f : List (List Int)) (p : List Int) (nx ny i : Nat) (a : Int) (n : Nat) : Int := fo (fun a k => W (a + (f.getD (i * ny + k) []).getD (bitIx p nx i k) 0)) a n
def pwTo (f : List (List Int)) (p : List Int) (nx ny n : Nat) : Int := fo (fun a i => pwRow f p nx ny i a ny) 0 n
def fnGRow (s : List Int) (m : List (List Int)) (i : Nat) : List Int := (m.getD i []).map (fun w => W (w * s.getD i 0))
def funG (s : List Int) (m : List (List Int)) : List (List Int) := (List.range m.length).map (fnGRow s m)
theorem pw_score (s : List Int) (m : List (List Int)) (p : List Int) (nx ny : Nat) (hp : ∀ v, v ∈ p → 0 ≤ v ∧ v ≤ 1) (hm : m.length = nx * ny) (h4 : ∀ r, r ∈ m → r.length = 4) :
    pwTo (funG s m) p nx ny nx = scoreTo s m p nx ny nx := by
  refine fo_congr fun a i hi => fo_congr fun b k hk => ?_
  have hlt := ix_lt hi hk
  have hb := (bitIx_eq hp nx i k).2
  have hrow : (m.getD (i * ny + k) []).length = 4 := h4 _ (by rw [List.getD_eq_getElem?_getD, List.getElem?_eq_getElem (by omega)]; exact List.getElem_mem _)
  rw [funG, range_getD (by omega), fnGRow, map_getD (d := 0) (by omega), wonAt, Int.mul_comm]
end Go.Aw
namespace Go.Proofs.Ytkomndcehdneaaa
open Go.Aw
set_option maxRecDepth 100000
set_option maxHeartbeats 4000000

theorem l4Won_spec (nx ny i k q : Nat) (s : List Int) (m : List (List Int)) (A B : Int) (hs : i * ny + k < s.length) (hm : i * ny + k < m.length) (hb : i * ny + k ≤ 1000000) (hq : IntKind.i64.wrap (IntKind.i64.wrap (2 * A) + B) = (q : Int)) (hl : q < (m.getD (i * ny + k) []).length) :
    FSpec Try.prog 207 [.ag [.c (.int .i64 (nx)), .c (.int .i64 (ny)), .t (.ints .i64 s), .t (.rows m)], .c (.int .i64 (i)), .c (.int .i64 (k)), .c (.int .i64 (A)), .c (.int .i64 (B))] (ex (.c (.int .i64 (W (s.getD (i * ny + k) 0 * (m.getD (i * ny + k) []).getD q 0)))) []) := by
  refine fspec tyOk mx Try.func207 rfl (by kernel_rfl) rfl ?_
  conv => whnf
  refine ADraw.std tyOk mx ⟨by kernel_rfl, i * ny + k, natMulAdd hb, hs, i * ny + k, natMulAdd hb, hm, q, hq, hl, ?_⟩
  conv => whnf
  exact ⟨rfl, rfl⟩

theorem l4Score_spec (nx ny : Nat) (s : List Int) (m : List (List Int)) (p : List Int) (hx : nx ≤ 3) (hy : ny ≤ 3) (hs : s.length = nx * ny) (hm : m.length = nx * ny) (h4 : ∀ r, r ∈ m → r.length = 4) (hp : ∀ v, v ∈ p → 0 ≤ v ∧ v ≤ 1) (hl : p.length = nx + ny) :
    FSpec Try.prog 205 [.ag [.c (.int .i64 (nx)), .c (.int .i64 (ny)), .t (.ints .i64 s), .t (.rows m)], .t (.ints .i64 p)] (ex (.c (.int .i64 (scoreTo s m p nx ny nx))) []) := by
  have hn : nx * ny ≤ 3 * 3 := Nat.mul_le_mul hx hy
  refine fspec tyOk mx Try.func205 rfl (by kernel_rfl) rfl ?_
  conv => whnf
  refine aloopI tyOk mx (fun i : Nat => (⟨38, [(1, .t (.ints .i64 p)), (2, .ptr 0 0), (5, .c (.int .i64 (scoreTo s m p nx ny i))), (6, .c (.int .i64 (i)))], [(0, .cells 84 [.c (.int .i64 (nx)), .c (.int .i64 (ny)), .t (.ints .i64 s), .t (.rows m)])], 1⟩ : St)) (fun i => i ≤ nx) (fun i => nx - i) 0 (Nat.zero_le _) none (by refine ⟨rfl, rfl, ?_, ?_⟩ <;> ((repeat' (first | exact trivial | exact rfl | refine And.intro ?_ ?_)) <;> (try ((conv => whnf); first | refine vint ?_ | refine vboo ?_ | refine rint ?_ | refine rrow ?_ | skip)) <;> (try first | omega | (simp; done) | ((repeat rw [flts_closed _ (by assumption)]); exact vws_closed _ (by assumption))))) (fun i hi => ?_)
  refine ⟨fun h => ?_, fun h => ?_⟩
  · have h := ltT h
    conv => whnf
    refine aloopI tyOk mx (fun k : Nat => (⟨38, [(1, .t (.ints .i64 p)), (2, .ptr 0 0), (5, .c (.int .i64 (scoreRow s m p nx ny i (scoreTo s m p nx ny i) k))), (6, .c (.int .i64 (i))), (7, .c (.int .i64 (k)))], [(0, .cells 84 [.c (.int .i64 (nx)), .c (.int .i64 (ny)), .t (.ints .i64 s), .t (.rows m)])], 1⟩ : St)) (fun k => k ≤ ny) (fun k => ny - k) 0 (Nat.zero_le _) none (by refine ⟨rfl, rfl, ?_, ?_⟩ <;> ((repeat' (first | exact trivial | exact rfl | refine And.intro ?_ ?_)) <;> (try ((conv => whnf); first | refine vint ?_ | refine vboo ?_ | refine rint ?_ | refine rrow ?_ | skip)) <;> (try first | omega | (simp; done) | ((repeat rw [flts_closed _ (by assumption)]); exact vws_closed _ (by assumption))))) (fun k hk => ?_)
    refine ⟨fun h2 => ?_, fun h2 => ?_⟩
    · have h2 := ltT h2
      have hlt := ix_lt h h2
      have hb := bitIx_eq hp nx i k
      have hrow : (m.getD (i * ny + k) []).length = 4 := h4 _ (getD_mem (by omega))
      refine ADraw.std tyOk mx ⟨by kernel_rfl, i, rfl, by omega, nx + k, natAdd (by omega), by omega, ?_⟩
      conv => whnf
      refine QCall.use (l4Won_spec nx ny i k (bitIx p nx i k) s m _ _ (by omega) (by omega) (by omega) hb.1 (by omega)) ?_
      conv => whnf
      rw [nat_wrap (by omega)]
      exact ⟨k + 1, none, (by refine ⟨rfl, rfl, ?_, ?_⟩ <;> ((repeat' (first | exact trivial | exact rfl | refine And.intro ?_ ?_)) <;> (try ((conv => whnf); first | refine vint ?_ | refine vboo ?_ | refine rint ?_ | refine rrow ?_ | skip)) <;> (try first | omega | (simp; done) | ((repeat rw [flts_closed _ (by assumption)]); exact vws_closed _ (by assumption))))), by omega, by omega⟩
    · have h2 := ltF h2
      obtain rfl : k = ny := by omega
      conv => whnf
      rw [nat_wrap (by omega)]
      exact ⟨i + 1, none, (by refine ⟨rfl, rfl, ?_, ?_⟩ <;> ((repeat' (first | exact trivial | exact rfl | refine And.intro ?_ ?_)) <;> (try ((conv => whnf); first | refine vint ?_ | refine vboo ?_ | refine rint ?_ | refine rrow ?_ | skip)) <;> (try first | omega | (simp; done) | ((repeat rw [flts_closed _ (by assumption)]); exact vws_closed _ (by assumption))))), by omega, by omega⟩
  · have h := ltF h
    obtain rfl : i = nx := by omega
    conv => whnf
    exact ⟨rfl, rfl⟩

theorem playWorth_spec (nx ny : Nat) (f : List (List Int)) (p : List Int) (hx : nx ≤ 3) (hy : ny ≤ 3) (hf : f.length = nx * ny) (h4 : ∀ r, r ∈ f → r.length = 4) (hp : ∀ v, v ∈ p → 0 ≤ v ∧ v ≤ 1) (hl : p.length = nx + ny) :
    FSpec Try.prog 143 [.c (.int .i64 (nx)), .c (.int .i64 (ny)), .t (.rows f), .t (.ints .i64 p)] (ex (.c (.int .i64 (pwTo f p nx ny nx))) []) := by
  have hn : nx * ny ≤ 3 * 3 := Nat.mul_le_mul hx hy
  refine fspec tyOk mx Try.func143 rfl (by kernel_rfl) rfl ?_
  conv => whnf
  refine aloopI tyOk mx (fun i : Nat => (⟨47, [(0, .c (.int .i64 (nx))), (1, .c (.int .i64 (ny))), (2, .t (.rows f)), (3, .t (.ints .i64 p)), (9, .c (.int .i64 (pwTo f p nx ny i))), (12, .c (.int .i64 (nx))), (13, .c (.int .i64 (i)))], [], 0⟩ : St)) (fun i => i ≤ nx) (fun i => nx - i) 0 (Nat.zero_le _) none (by refine ⟨rfl, rfl, ?_, ?_⟩ <;> ((repeat' (first | exact trivial | exact rfl | refine And.intro ?_ ?_)) <;> (try ((conv => whnf); first | refine vint ?_ | refine vboo ?_ | refine rint ?_ | refine rrow ?_ | skip)) <;> (try first | omega | (simp; done) | ((repeat rw [flts_closed _ (by assumption)]); exact vws_closed _ (by assumption))))) (fun i hi => ?_)
  refine ⟨fun h => ?_, fun h => ?_⟩
  · have h := ltT h
    conv => whnf
    refine aloopI tyOk mx (fun k : Nat => (⟨47, [(0, .c (.int .i64 (nx))), (1, .c (.int .i64 (ny))), (2, .t (.rows f)), (3, .t (.ints .i64 p)), (9, .c (.int .i64 (pwRow f p nx ny i (pwTo f p nx ny i) k))), (10, .c (.int .i64 (i))), (12, .c (.int .i64 (nx))), (13, .c (.int .i64 (i))), (16, .c (.int .i64 (ny))), (17, .c (.int .i64 (k)))], [], 0⟩ : St)) (fun k => k ≤ ny) (fun k => ny - k) 0 (Nat.zero_le _) none (by refine ⟨rfl, rfl, ?_, ?_⟩ <;> ((repeat' (first | exact trivial | exact rfl | refine And.intro ?_ ?_)) <;> (try ((conv => whnf); first | refine vint ?_ | refine vboo ?_ | refine rint ?_ | refine rrow ?_ | skip)) <;> (try first | omega | (simp; done) | ((repeat rw [flts_closed _ (by assumption)]); exact vws_closed _ (by assumption))))) (fun k hk => ?_)
    refine ⟨fun h2 => ?_, fun h2 => ?_⟩
    · have h2 := ltT h2
      have hlt := ix_lt h h2
      have hb := bitIx_eq hp nx i k
      have hrow : (f.getD (i * ny + k) []).length = 4 := h4 _ (getD_mem (by omega))
      conv => whnf
      refine ADraw.std tyOk mx ⟨by kernel_rfl, i * ny + k, natMulAdd (by omega), by omega, i, rfl, by omega, nx + k, natAdd (by omega), by omega, bitIx p nx i k, hb.1, by omega, ?_⟩
      conv => whnf
      rw [nat_wrap (by omega)]
      exact ⟨k + 1, none, (by refine ⟨rfl, rfl, ?_, ?_⟩ <;> ((repeat' (first | exact trivial | exact rfl | refine And.intro ?_ ?_)) <;> (try ((conv => whnf); first | refine vint ?_ | refine vboo ?_ | refine rint ?_ | refine rrow ?_ | skip)) <;> (try first | omega | (simp; done) | ((repeat rw [flts_closed _ (by assumption)]); exact vws_closed _ (by assumption))))), by omega, by omega⟩
    · have h2 := ltF h2
      obtain rfl : k = ny := by omega
      conv => whnf
      rw [nat_wrap (by omega)]
      exact ⟨i + 1, none, (by refine ⟨rfl, rfl, ?_, ?_⟩ <;> ((repeat' (first | exact trivial | exact rfl | refine And.intro ?_ ?_)) <;> (try ((conv => whnf); first | refine vint ?_ | refine vboo ?_ | refine rint ?_ | refine rrow ?_ | skip)) <;> (try first | omega | (simp; done) | ((repeat rw [flts_closed _ (by assumption)]); exact vws_closed _ (by assumption))))), by omega, by omega⟩
  · have h := ltF h
    obtain rfl : i = nx := by omega
    conv => whnf
    exact ⟨rfl, rfl⟩

theorem functional_spec (x y : Int) (s : List Int) (m : List (List Int)) (hs : s.length = m.length) (hm : m.length ≤ 1000) (h4 : ∀ r, r ∈ m → r.length ≤ 1000) :
    FSpec Try.prog 199 [.ag [.c (.int .i64 (x)), .c (.int .i64 (y)), .t (.ints .i64 s), .t (.rows m)]] (ex (.own 0) [(0, .rows 25 3 true (funG s m))]) := by
  refine fspec tyOk mx Try.func199 rfl (by kernel_rfl) rfl ?_
  conv => whnf
  refine aloopI tyOk mx (fun i : Nat => (⟨42, [(1, .ptr 0 0), (3, .own 1), (11, .t (.rows m)), (12, .c (.int .i64 (m.length))), (13, .c (.int .i64 (i)))], [(0, .cells 84 [.c (.int .i64 (x)), .c (.int .i64 (y)), .t (.ints .i64 s), .t (.rows m)]), (1, .rows 25 3 true ((List.range i).map (fnGRow s m)))], 2⟩ : St)) (fun i => i ≤ m.length) (fun i => m.length - i) 0 (Nat.zero_le _) none (by refine ⟨rfl, rfl, ?_, ?_⟩ <;> ((repeat' (first | exact trivial | exact rfl | refine And.intro ?_ ?_)) <;> (try ((conv => whnf); first | refine vint ?_ | refine vboo ?_ | refine rint ?_ | refine rrow ?_ | skip)) <;> (try first | omega | (simp; done) | ((repeat rw [flts_closed _ (by assumption)]); exact vws_closed _ (by assumption))))) (fun i hi => ?_)
  refine ⟨fun h => ?_, fun h => ?_⟩
  · have h := ltT h
    have h5 := h4 _ (getD_mem (d := []) h)
    conv => whnf
    refine ⟨i, rfl, h, ?_⟩
    conv => whnf
    refine aloopI tyOk mx (fun k : Nat => (⟨42, [(1, .ptr 0 0), (3, .own 1), (4, .c (.int .i64 (i))), (6, .own 2), (11, .t (.rows m)), (12, .c (.int .i64 (m.length))), (13, .c (.int .i64 (i))), (19, .t (.ints .i64 (m.getD i []))), (20, .c (.int .i64 ((m.getD i []).length))), (21, .c (.int .i64 (k)))], [(0, .cells 84 [.c (.int .i64 (x)), .c (.int .i64 (y)), .t (.ints .i64 s), .t (.rows m)]), (1, .rows 25 3 true ((List.range i).map (fnGRow s m))), (2, .ints 3 .i64 (((m.getD i []).take k).map (fun w => W (w * s.getD i 0))))], 3⟩ : St)) (fun k => k ≤ (m.getD i []).length) (fun k => (m.getD i []).length - k) 0 (Nat.zero_le _) none (by refine ⟨rfl, rfl, ?_, ?_⟩ <;> ((repeat' (first | exact trivial | exact rfl | refine And.intro ?_ ?_)) <;> (try ((conv => whnf); first | refine vint ?_ | refine vboo ?_ | refine rint ?_ | refine rrow ?_ | skip)) <;> (try first | omega | (simp; done) | ((repeat rw [flts_closed _ (by assumption)]); exact vws_closed _ (by assumption))))) (fun k hk => ?_)
    refine ⟨fun h2 => ?_, fun h2 => ?_⟩
    · have h2 := ltT h2
      conv => whnf
      refine ⟨k, rfl, h2, ?_⟩
      conv => whnf
      refine ⟨i, rfl, by omega, ?_⟩
      conv => whnf
      refine ⟨by simp [room]; omega, ?_⟩
      conv => whnf
      rw [nat_wrap (by omega)]
      refine ⟨k + 1, none, ?_, by omega, by omega⟩
      (refine ⟨rfl, rfl, ?_, ?_⟩ <;> ((repeat' (first | exact trivial | exact rfl | refine And.intro ?_ ?_)) <;> (try ((conv => whnf); first | refine vint ?_ | refine vboo ?_ | refine rint ?_ | refine rrow ?_ | skip)) <;> (try first | omega | (simp; done) | ((repeat rw [flts_closed _ (by assumption)]); exact vws_closed _ (by assumption)))))
      rw [List.take_succ_eq_append_getElem h2, List.map_append, getD_lt h2]
      rfl
    · have h2 := ltF h2
      obtain rfl : k = (m.getD i []).length := by omega
      conv => whnf
      refine ⟨by simp [room]; omega, ?_⟩
      conv => whnf
      rw [nat_wrap (by omega)]
      refine ⟨i + 1, none, ?_, by omega, by omega⟩
      (refine ⟨rfl, rfl, ?_, ?_⟩ <;> ((repeat' (first | exact trivial | exact rfl | refine And.intro ?_ ?_)) <;> (try ((conv => whnf); first | refine vint ?_ | refine vboo ?_ | refine rint ?_ | refine rrow ?_ | skip)) <;> (try first | omega | (simp; done) | ((repeat rw [flts_closed _ (by assumption)]); exact vws_closed _ (by assumption)))))
      rw [← map_range_succ, fnGRow, List.take_length]
  · have h := ltF h
    obtain rfl : i = m.length := by omega
    conv => whnf
    exact ⟨rfl, rfl⟩

theorem l4Functional_spec (x y : Int) (s : List Int) (m : List (List Int)) (hs : s.length = m.length) (hm : m.length ≤ 1000) (h4 : ∀ r, r ∈ m → r.length = 4) :
    FSpec Try.prog 201 [.ag [.c (.int .i64 (x)), .c (.int .i64 (y)), .t (.ints .i64 s), .t (.rows m)]] (ex (.own 0) [(0, .rows 25 3 true (funG s m))]) := by
  refine fspec tyOk mx Try.func201 rfl (by kernel_rfl) rfl ?_
  conv => whnf
  refine aloopI tyOk mx (fun i : Nat => (⟨42, [(1, .ptr 0 0), (3, .own 1), (4, .c (.int .i64 (i)))], [(0, .cells 84 [.c (.int .i64 (x)), .c (.int .i64 (y)), .t (.ints .i64 s), .t (.rows m)]), (1, .rows 25 3 true ((List.range i).map (fnGRow s m)))], 2⟩ : St)) (fun i => i ≤ m.length) (fun i => m.length - i) 0 (Nat.zero_le _) none (by refine ⟨rfl, rfl, ?_, ?_⟩ <;> ((repeat' (first | exact trivial | exact rfl | refine And.intro ?_ ?_)) <;> (try ((conv => whnf); first | refine vint ?_ | refine vboo ?_ | refine rint ?_ | refine rrow ?_ | skip)) <;> (try first | omega | (simp; done) | ((repeat rw [flts_closed _ (by assumption)]); exact vws_closed _ (by assumption))))) (fun i hi => ?_)
  refine ⟨fun h => ?_, fun h => ?_⟩
  · have h := ltT h
    have h5 := h4 _ (getD_mem (d := []) h)
    conv => whnf
    refine aloopI tyOk mx (fun k : Nat => (⟨42, [(1, .ptr 0 0), (3, .own 1), (4, .c (.int .i64 (i))), (5, .own 2), (6, .c (.int .i64 (k)))], [(0, .cells 84 [.c (.int .i64 (x)), .c (.int .i64 (y)), .t (.ints .i64 s), .t (.rows m)]), (1, .rows 25 3 true ((List.range i).map (fnGRow s m))), (2, .ints 3 .i64 (((m.getD i []).take k).map (fun w => W (w * s.getD i 0))))], 3⟩ : St)) (fun k => k ≤ 4) (fun k => 4 - k) 0 (Nat.zero_le _) none (by refine ⟨rfl, rfl, ?_, ?_⟩ <;> ((repeat' (first | exact trivial | exact rfl | refine And.intro ?_ ?_)) <;> (try ((conv => whnf); first | refine vint ?_ | refine vboo ?_ | refine rint ?_ | refine rrow ?_ | skip)) <;> (try first | omega | (simp; done) | ((repeat rw [flts_closed _ (by assumption)]); exact vws_closed _ (by assumption))))) (fun k hk => ?_)
    refine ⟨fun h2 => ?_, fun h2 => ?_⟩
    · have h2 : k < (m.getD i []).length := by have := of_decide_eq_true h2; omega
      conv => whnf
      refine ADraw.plan tyOk mx (.q 0 (.q 1 (.q 2 (.q 3 (.q 4 (.q 5 (.q 6 (.q 7 (.q 8 (.q 9 (.q 10 (.q 11 (.q 12 (.q 13 (.q 14 (.last 15 (.last 16 (.q 17 (.done)))))))))))))))))) : Plan) (by kernel_rfl) ?_
      conv => whnf
      refine ⟨i, rfl, by omega, i, rfl, h, k, rfl, h2, ?_⟩
      conv => whnf
      refine ⟨by simp [room]; omega, ?_⟩
      conv => whnf
      rw [nat_wrap (by omega)]
      refine ⟨k + 1, none, ?_, by omega, by omega⟩
      (refine ⟨rfl, rfl, ?_, ?_⟩ <;> ((repeat' (first | exact trivial | exact rfl | refine And.intro ?_ ?_)) <;> (try ((conv => whnf); first | refine vint ?_ | refine vboo ?_ | refine rint ?_ | refine rrow ?_ | skip)) <;> (try first | omega | (simp; done) | ((repeat rw [flts_closed _ (by assumption)]); exact vws_closed _ (by assumption)))))
      rw [List.take_succ_eq_append_getElem h2, List.map_append, getD_lt h2, Int.mul_comm]
      rfl
    · have h2 : ¬ k < 4 := by have := of_decide_eq_false h2; omega
      obtain rfl : k = 4 := by omega
      conv => whnf
      refine ⟨by simp [room]; omega, ?_⟩
      conv => whnf
      rw [nat_wrap (by omega)]
      refine ⟨i + 1, none, ?_, by omega, by omega⟩
      (refine ⟨rfl, rfl, ?_, ?_⟩ <;> ((repeat' (first | exact trivial | exact rfl | refine And.intro ?_ ?_)) <;> (try ((conv => whnf); first | refine vint ?_ | refine vboo ?_ | refine rint ?_ | refine rrow ?_ | skip)) <;> (try first | omega | (simp; done) | ((repeat rw [flts_closed _ (by assumption)]); exact vws_closed _ (by assumption)))))
      rw [← map_range_succ, fnGRow, List.take_of_length_le (by omega)]
  · have h := ltF h
    obtain rfl : i = m.length := by omega
    conv => whnf
    exact ⟨rfl, rfl⟩

theorem score_spec (nx ny : Nat) (s : List Int) (m : List (List Int)) (p : List Int) (hx : nx ≤ 3) (hy : ny ≤ 3) (hs : s.length = nx * ny) (hm : m.length = nx * ny) (h4 : ∀ r, r ∈ m → r.length = 4) (hp : ∀ v, v ∈ p → 0 ≤ v ∧ v ≤ 1) (hl : p.length = nx + ny) :
    FSpec Try.prog 203 [.ag [.c (.int .i64 (nx)), .c (.int .i64 (ny)), .t (.ints .i64 s), .t (.rows m)], .t (.ints .i64 p)] (ex (.c (.int .i64 (scoreTo s m p nx ny nx))) []) := by
  have hn : nx * ny ≤ 3 * 3 := Nat.mul_le_mul hx hy
  have hf : (funG s m).length = nx * ny := by simp [funG, hm]
  have hf4 : ∀ r, r ∈ funG s m → r.length = 4 := fun r hr => by
    obtain ⟨i, hi, rfl⟩ := List.mem_map.1 hr
    rw [fnGRow, List.length_map]
    exact h4 _ (getD_mem (by simpa using hi))
  refine fspec tyOk mx Try.func203 rfl (by kernel_rfl) rfl ?_
  conv => whnf
  refine ADraw.plan tyOk mx (.q 0 (.q 1 (.q 2 (.q 3 (.q 4 (.q 6 (.last 5 (.last 7 (.q 8 (.done))))))))) : Plan) (by kernel_rfl) ?_
  conv => whnf
  refine ACall.useR (functional_spec _ _ s m (by omega) (by omega) (fun r hr => by have := h4 r hr; omega)) ?_
  conv => whnf
  refine ACall.useR (playWorth_spec nx ny (funG s m) p hx hy hf hf4 hp hl) ?_
  conv => whnf
  exact ⟨by rw [pw_score s m p nx ny hp hm h4], rfl⟩

theorem isPlay_spec (x y : Int) (p : List Int) (hl : p.length ≤ 1048576) :
    FSpec Try.prog 162 [.c (.int .i64 (x)), .c (.int .i64 (y)), .t (.ints .i64 p)] (ex (.c (.bool (decide ((p.length : Int) = W (x + y)) && rowIn p 0 1))) []) := by
  refine fspec tyOk mx Try.func162 rfl (by kernel_rfl) rfl ?_
  conv => whnf
  refine ⟨fun h => ?_, fun h => ?_⟩
  · conv => whnf
    refine ACall.use (allWithin_spec p _ _ (by omega)) ?_
    conv => whnf
    refine ⟨?_, rfl⟩
    rw [decide_eq_true (by simpa using h), Bool.true_and]
  · conv => whnf
    refine ⟨?_, rfl⟩
    rw [decide_eq_false (by simpa using h), Bool.false_and]

def isGP (x y : Int) (s : List Int) (m : List (List Int)) (p : List Int) : Bool := goodG x y s m && (decide ((p.length : Int) = W (x + y)) && rowIn p 0 1)
theorem isGamePlay_spec (x y : Int) (s : List Int) (m : List (List Int)) (p : List Int) (ks : SzI s) (km : SzM m) (kp : SzI p) :
    FSpec Try.prog 202 [.ag [.c (.int .i64 (x)), .c (.int .i64 (y)), .t (.ints .i64 s), .t (.rows m)], .t (.ints .i64 p)] (ex (.c (.bool (isGP x y s m p))) []) := by
  refine fspec tyOk mx Try.func202 rfl (by kernel_rfl) rfl ?_
  conv => whnf
  refine ACall.use (iIsGame_spec x y s m ks km) ?_
  conv => whnf
  refine ⟨fun h => ?_, fun h => ?_⟩
  · conv => whnf
    refine ACall.use (isPlay_spec x y p kp) ?_
    conv => whnf
    exact ⟨by rw [isGP, h, Bool.true_and], rfl⟩
  · conv => whnf
    exact ⟨by rw [isGP, h, Bool.false_and], rfl⟩
theorem l4Played_spec (x y : Int) (s : List Int) (m : List (List Int)) (p : List Int) (ks : SzI s) (km : SzM m) (kp : SzI p) :
    FSpec Try.prog 204 [.ag [.c (.int .i64 (x)), .c (.int .i64 (y)), .t (.ints .i64 s), .t (.rows m)], .t (.ints .i64 p)] (ex (.c (.bool (isGP x y s m p))) []) := by
  have kp' : p.length ≤ 1048576 := kp
  refine fspec tyOk mx Try.func204 rfl (by kernel_rfl) rfl ?_
  conv => whnf
  refine ACall.use (l4Game_spec x y s m ks km) ?_
  conv => whnf
  refine ⟨fun h => ?_, fun h => ?_⟩
  · conv => whnf
    refine ACall.use (l2Bits_spec p _ (by omega)) ?_
    conv => whnf
    refine ⟨?_, rfl⟩
    rw [isGP, h, Bool.true_and, Bool.and_comm]
  · conv => whnf
    exact ⟨by rw [isGP, h, Bool.false_and], rfl⟩
theorem isGP_spec {x y : Int} {s : List Int} {m : List (List Int)} {p : List Int} (h : isGP x y s m p = true) : ∃ a b : Nat, x = a ∧ y = b ∧ 1 ≤ a ∧ a ≤ 3 ∧ 1 ≤ b ∧ b ≤ 3 ∧ s.length = a * b ∧ m.length = a * b ∧ a * b ≤ 9 ∧
    (∀ v, v ∈ s → 0 ≤ v ∧ v ≤ 99) ∧ 0 < sumF s s.length ∧ (∀ r, r ∈ m → r.length = 4 ∧ ∀ v, v ∈ r → 0 ≤ v ∧ v ≤ 1) ∧ p.length = a + b ∧ (∀ v, v ∈ p → 0 ≤ v ∧ v ≤ 1) := by
  simp only [isGP, Bool.and_eq_true, decide_eq_true_eq, rowIn_iff] at h
  obtain ⟨h1, h2, h3⟩ := h
  obtain ⟨a, b, rfl, rfl, g1, g2, g3, g4, g5, g6, g7, g8, g9, g10⟩ := goodG_spec h1
  have e : W ((a : Int) + b) = ((a + b : Nat) : Int) := natAdd (by omega)
  rw [e] at h2
  exact ⟨a, b, rfl, rfl, g1, g2, g3, g4, g5, g6, g7, g8, g9, g10, by omega, h3⟩

def psF (x y : Int) (s : List Int) (m : List (List Int)) (p : List Int) : Int := if isGP x y s m p then scoreTo s m p x.toNat y.toNat x.toNat else 0

theorem PlayScore_s (x y : Int) (s : List Int) (m : List (List Int)) (_hx : InR x) (_hy : InR y) (_hs : OkI s) (_hm : OkM m) (ks : SzI s) (km : SzM m) (p : List Int) (_hp : OkI p) (kp : SzI p) :
    FSpec Try.prog 84 [.ag [.c (.int .i64 (x)), .c (.int .i64 (y)), .t (.ints .i64 s), .t (.rows m)], .t (.ints .i64 p)] (ex (.tu [.c (.int .i64 (psF x y s m p)), .c (.bool (isGP x y s m p))]) []) := by
  refine fspec tyOk mx Try.func84 rfl (by kernel_rfl) rfl ?_
  conv => whnf
  refine ACall.use (l4Played_spec x y s m p ks km kp) ?_
  conv => whnf
  refine ⟨fun h => ?_, fun h => ?_⟩
  · have h : isGP x y s m p = false := by simpa using h
    conv => whnf
    exact ⟨by rw [psF, h]; rfl, rfl⟩
  · have h : isGP x y s m p = true := by simpa using h
    have h' := h
    obtain ⟨a, b, rfl, rfl, g1, g2, g3, g4, g5, g6, g7, g8, g9, g10, g11, g12⟩ := isGP_spec h
    conv => whnf
    refine ACall.use (l4Score_spec a b s m p g2 g4 g5 g6 (fun r hr => (g10 r hr).1) g12 g11) ?_
    conv => whnf
    exact ⟨by rw [psF, h']; rfl, rfl⟩
theorem PlayScore_i (x y : Int) (s : List Int) (m : List (List Int)) (_hx : InR x) (_hy : InR y) (_hs : OkI s) (_hm : OkM m) (ks : SzI s) (km : SzM m) (p : List Int) (_hp : OkI p) (kp : SzI p) :
    FSpec Try.prog 83 [.ag [.c (.int .i64 (x)), .c (.int .i64 (y)), .t (.ints .i64 s), .t (.rows m)], .t (.ints .i64 p)] (ex (.tu [.c (.int .i64 (psF x y s m p)), .c (.bool (isGP x y s m p))]) []) := by
  refine fspec tyOk mx Try.func83 rfl (by kernel_rfl) rfl ?_
  conv => whnf
  refine ACall.use (isGamePlay_spec x y s m p ks km kp) ?_
  conv => whnf
  refine ⟨fun h => ?_, fun h => ?_⟩
  · have h : isGP x y s m p = false := by simpa using h
    conv => whnf
    exact ⟨by rw [psF, h]; rfl, rfl⟩
  · have h : isGP x y s m p = true := by simpa using h
    have h' := h
    obtain ⟨a, b, rfl, rfl, g1, g2, g3, g4, g5, g6, g7, g8, g9, g10, g11, g12⟩ := isGP_spec h
    conv => whnf
    refine ACall.use (score_spec a b s m p g2 g4 g5 g6 (fun r hr => (g10 r hr).1) g12 g11) ?_
    conv => whnf
    exact ⟨by rw [psF, h']; rfl, rfl⟩
end Go.Proofs.Ytkomndcehdneaaa
/- The boxes of plays of any sizes: reference and program. -/
namespace Go.Aw
def pgN (play : List Int) (nx : Nat) (w : Int) (x y a b : Nat) : Int := if play.getD x 0 = a ∧ play.getD (nx + y) 0 = b then w else 0
def pgM (play : List Int) (nx ny : Nat) (w : Int) : List (List Int) := boxRows (pgN play nx w) nx ny
theorem pg_row {nx : Nat} {play : List Int} {w : Int} {i k p q : Nat} (hp : play.getD i 0 = p) (hq : play.getD (nx + k) 0 = q) (h1 : p < 2) (h2 : q < 2) : (List.replicate 4 (0 : Int)).set (2 * p + q) w = boxRow (pgN play nx w) i k := by
  unfold boxRow pgN
  rw [hp, hq]
  have h1 : p = 0 ∨ p = 1 := by omega
  have h2 : q = 0 ∨ q = 1 := by omega
  rcases h1 with rfl | rfl <;> rcases h2 with rfl | rfl <;> rfl
end Go.Aw
namespace Go.Proofs.Ytkomndcehdneaaa
open Go.Aw
set_option maxRecDepth 100000
set_option maxHeartbeats 4000000

theorem pgN_spec (nx ny : Nat) (h3 : nx ≤ 3) (h3' : ny ≤ 3) (play : List Int) (hl : play.length = nx + ny) (w : Int) (i k a b : Nat) (hi : i < nx) (hk : k < ny) :
    FSpec Try.prog 245 [.c (.int .i64 (i)), .c (.int .i64 (k)), .c (.int .i64 (a)), .c (.int .i64 (b)), .rp [.t (.ints .i64 play)] 0, .rp [.c (.int .i64 (nx))] 0, .rp [.c (.int .i64 (w))] 0] (ex (.c (.int .i64 (pgN play nx w i k a b))) []) := by
  have e : IntKind.i64.wrap ((nx : Int) + (k : Int)) = ((nx + k : Nat) : Int) := by rw [w64 (by omega) (by omega)]; omega
  refine fspec tyOk mx Try.func245 rfl (by kernel_rfl) rfl ?_
  conv => whnf
  refine ⟨i, rfl, by omega, ?_⟩
  conv => whnf
  refine ⟨fun h => ?_, fun h => ?_⟩
  · have h : play.getD i 0 = a := by simpa using h
    conv => whnf
    refine ⟨nx + k, e, by omega, ?_⟩
    conv => whnf
    refine ⟨fun h2 => ?_, fun h2 => ?_⟩
    · have h2 : play.getD (nx + k) 0 = b := by simpa using h2
      conv => whnf
      exact ⟨by rw [pgN, if_pos ⟨h, h2⟩], rfl⟩
    · have h2 : ¬ play.getD (nx + k) 0 = b := by simpa using h2
      conv => whnf
      exact ⟨by rw [pgN, if_neg (fun c => h2 c.2)], rfl⟩
  · have h : ¬ play.getD i 0 = a := by simpa using h
    conv => whnf
    (repeat (conv => whnf); (first | refine ⟨fun h => absurd h (by decide), fun _ => ?_⟩ | refine ⟨fun _ => ?_, fun h => absurd h (by decide)⟩)); conv => whnf
    exact ⟨by rw [pgN, if_neg (fun c => h c.1)], rfl⟩

theorem playBoxG_spec (nx ny : Nat) (h3 : nx ≤ 3) (h3' : ny ≤ 3) (play : List Int) (hl : play.length = nx + ny) (w : Int) :
    FSpec Try.prog 180 [.c (.int .i64 (nx)), .c (.int .i64 (ny)), .t (.ints .i64 play), .c (.int .i64 (w))] (ex (.ag [.c (.int .i64 (nx)), .c (.int .i64 (ny)), .c (.int .i64 (w)), .own 0]) [(0, .rows 25 3 true (pgM play nx ny w))]) := by
  refine fspec tyOk mx Try.func180 rfl (by kernel_rfl) rfl ?_
  conv => whnf
  refine ACall.use (newBox_spec nx ny w _ [.rp [.t (.ints .i64 play)] 0, .rp [.c (.int .i64 (nx))] 0, .rp [.c (.int .i64 (w))] 0] (pgN play nx w) (by omega) (by omega) (fun _ _ => rfl) rfl (fun i k' a b hi hk _ _ => pgN_spec nx ny h3 h3' play hl w i k' a b hi hk)) ?_
  conv => whnf
  exact ⟨rfl, rfl⟩

theorem l2PlayBoxG_spec (nx ny : Nat) (h3 : nx ≤ 3) (h3' : ny ≤ 3) (play : List Int) (hl : play.length = nx + ny) (h01 : ∀ v, v ∈ play → 0 ≤ v ∧ v ≤ 1) (w : Int) :
    FSpec Try.prog 146 [.c (.int .i64 (nx)), .c (.int .i64 (ny)), .t (.ints .i64 play), .c (.int .i64 (w))] (ex (.ag [.c (.int .i64 (nx)), .c (.int .i64 (ny)), .c (.int .i64 (w)), .own 0]) [(0, .rows 25 3 true (pgM play nx ny w))]) := by
  refine fspec tyOk mx Try.func146 rfl (by kernel_rfl) rfl ?_
  conv => whnf
  refine aloopI tyOk mx (fun i : Nat => (⟨51, [(0, .c (.int .i64 (nx))), (1, .c (.int .i64 (ny))), (2, .t (.ints .i64 play)), (3, .c (.int .i64 (w))), (8, .ptr 0 0), (9, .ptr 2 0), (10, .c (.int .i64 (i)))], [(0, .cells 53 [.c (.int .i64 (0)), .c (.int .i64 (0)), .c (.int .i64 (0)), .c (.slice none 0 0)]), (1, .rows 25 3 true (boxTo (pgN play nx w) ny i 0)), (2, .cells 53 [.c (.int .i64 (nx)), .c (.int .i64 (ny)), .c (.int .i64 (w)), .own 1])], 3⟩ : St)) (fun i => i ≤ nx) (fun i => nx - i) 0 (Nat.zero_le _) none (by refine ⟨rfl, rfl, ?_, ?_⟩ <;> ((repeat' (first | exact trivial | exact rfl | refine And.intro ?_ ?_)) <;> (try ((conv => whnf); first | refine vint ?_ | refine vboo ?_ | refine rint ?_ | refine rrow ?_ | skip)) <;> (try first | omega | (simp; done) | ((repeat rw [flts_closed _ (by assumption)]); exact vws_closed _ (by assumption))))) (fun i hi => ?_)
  refine ⟨fun h => ?_, fun h => ?_⟩
  · have h : i < nx := by have := of_decide_eq_true h; omega
    conv => whnf
    refine aloopI tyOk mx (fun k : Nat => (⟨51, [(0, .c (.int .i64 (nx))), (1, .c (.int .i64 (ny))), (2, .t (.ints .i64 play)), (3, .c (.int .i64 (w))), (8, .ptr 0 0), (9, .ptr 2 0), (10, .c (.int .i64 (i))), (11, .c (.int .i64 (k)))], [(0, .cells 53 [.c (.int .i64 (0)), .c (.int .i64 (0)), .c (.int .i64 (0)), .c (.slice none 0 0)]), (1, .rows 25 3 true (boxTo (pgN play nx w) ny i k)), (2, .cells 53 [.c (.int .i64 (nx)), .c (.int .i64 (ny)), .c (.int .i64 (w)), .own 1])], 3⟩ : St)) (fun k => k ≤ ny) (fun k => ny - k) 0 (Nat.zero_le _) none (by refine ⟨rfl, rfl, ?_, ?_⟩ <;> ((repeat' (first | exact trivial | exact rfl | refine And.intro ?_ ?_)) <;> (try ((conv => whnf); first | refine vint ?_ | refine vboo ?_ | refine rint ?_ | refine rrow ?_ | skip)) <;> (try first | omega | (simp; done) | ((repeat rw [flts_closed _ (by assumption)]); exact vws_closed _ (by assumption))))) (fun k hk => ?_)
    have hix : i * ny ≤ 3 * 3 := Nat.mul_le_mul (by omega) h3'
    have hlen := boxTo_len (pgN play nx w) ny i k
    refine ⟨fun h2 => ?_, fun h2 => ?_⟩
    · have h2 : k < ny := by have := of_decide_eq_true h2; omega
      have hp := h01 _ (getD_mem (d := 0) (show i < play.length by omega))
      have hq := h01 _ (getD_mem (d := 0) (show nx + k < play.length by omega))
      have e : IntKind.i64.wrap ((nx : Int) + (k : Int)) = ((nx + k : Nat) : Int) := by rw [w64 (by omega) (by omega)]; omega
      have e2 : IntKind.i64.wrap (IntKind.i64.wrap (2 * play.getD i 0) + play.getD (nx + k) 0) = ((2 * (play.getD i 0).toNat + (play.getD (nx + k) 0).toNat : Nat) : Int) := by
        rw [w64 (n := 2 * play.getD i 0) (by omega) (by omega), w64 (by omega) (by omega)]; omega
      conv => whnf
      refine ⟨4, rfl, rfl, by simp [room], ?_⟩
      conv => whnf
      refine ADraw.plan tyOk mx (.q 0 (.q 1 (.q 2 (.q 3 (.q 4 (.q 5 (.q 6 (.q 7 (.q 8 (.q 9 (.q 10 (.q 11 (.q 12 (.q 13 (.q 14 (.last 15 (.done)))))))))))))))) : Plan) (by kernel_rfl) ?_
      conv => whnf
      repeat' (first | (refine ⟨i, rfl, by omega, ?_⟩; conv => whnf) | (refine ⟨nx + k, e, by omega, ?_⟩; conv => whnf) | (refine ⟨2 * (play.getD i 0).toNat + (play.getD (nx + k) 0).toNat, e2, by rw [List.length_replicate]; omega, ?_⟩; conv => whnf) | (refine ⟨by simp [room]; omega, ?_⟩; conv => whnf) | (refine And.intro ?_ ?_ <;> (conv => whnf)))
      all_goals
        rw [nat_wrap (by omega)]
        refine ⟨k + 1, none, ?_, by omega, by omega⟩
        (refine ⟨rfl, rfl, ?_, ?_⟩ <;> ((repeat' (first | exact trivial | exact rfl | refine And.intro ?_ ?_)) <;> (try ((conv => whnf); first | refine vint ?_ | refine vboo ?_ | refine rint ?_ | refine rrow ?_ | skip)) <;> (try first | omega | (simp; done) | ((repeat rw [flts_closed _ (by assumption)]); exact vws_closed _ (by assumption)))))
        rw [← boxTo_row, ← pg_row (i := i) (k := k) (p := (play.getD i 0).toNat) (q := (play.getD (nx + k) 0).toNat) (by omega) (by omega) (by omega) (by omega)]
    · have h2 : ¬ k < ny := by have := of_decide_eq_false h2; omega
      obtain rfl : k = ny := by omega
      conv => whnf
      rw [nat_wrap (by omega)]
      refine ⟨i + 1, none, ?_, by omega, by omega⟩
      (refine ⟨rfl, rfl, ?_, ?_⟩ <;> ((repeat' (first | exact trivial | exact rfl | refine And.intro ?_ ?_)) <;> (try ((conv => whnf); first | refine vint ?_ | refine vboo ?_ | refine rint ?_ | refine rrow ?_ | skip)) <;> (try first | omega | (simp; done) | ((repeat rw [flts_closed _ (by assumption)]); exact vws_closed _ (by assumption)))))
      exact boxTo_end _ _ i
  · have h : ¬ i < nx := by have := of_decide_eq_false h; omega
    obtain rfl : i = nx := by omega
    conv => whnf
    exact ⟨rfl, by rw [boxTo_all]; rfl⟩

theorem AreAlike_s (x y z : Int) (m : List (List Int)) (x' y' z' : Int) (m' : List (List Int)) (km : SzM m) (km' : SzM m') :
    FSpec Try.prog 59 [.ag [.c (.int .i64 (x)), .c (.int .i64 (y)), .c (.int .i64 (z)), .t (.rows m)], .ag [.c (.int .i64 (x')), .c (.int .i64 (y')), .c (.int .i64 (z')), .t (.rows m')]] (ex (.tu [.c (.bool (aaV x y z m x' y' z' m')), .c (.bool (sqB x y z m x' y' z' m'))]) []) := by
  refine fspec tyOk mx Try.func59 rfl (by kernel_rfl) rfl ?_
  conv => whnf
  refine ACall.use (l2Same_spec x y z m x' y' z' m' km km') ?_
  conv => whnf
  refine ⟨fun h => ?_, fun h => ?_⟩
  · have h : sqB x y z m x' y' z' m' = false := by simpa using h
    conv => whnf
    exact ⟨by rw [aaV, h]; rfl, rfl⟩
  · have h : sqB x y z m x' y' z' m' = true := by simpa using h
    obtain ⟨h1, h2, rfl, rfl⟩ := sqB_spec h
    obtain ⟨a, b, e1, e2, _, _, _, _, _, _, l1, c1, r1⟩ := goodB_spec h1
    obtain ⟨a', b', e1', e2', _, _, _, _, _, _, l2, c2, r2⟩ := goodB_spec h2
    have ea : a = a' := by omega
    have eb : b = b' := by omega
    subst ea eb
    conv => whnf
    refine ACall.use (l2Alike_spec x y z x y z' m m' (by rw [l1, l2]) (by omega) (fun r hr => (r1 r hr).1) (fun r hr => (r2 r hr).1)) ?_
    conv => whnf
    exact ⟨by rw [aaV, h, Bool.true_and], rfl⟩
end Go.Proofs.Ytkomndcehdneaaa
/- Functionals of any sizes, worths: reference and program. -/
namespace Go.Proofs.Ytkomndcehdneaaa
open Go.Aw
set_option maxRecDepth 100000
set_option maxHeartbeats 4000000

/-- a functional for x and y questions -/
def fnG (x y : Int) (f : List (List Int)) : Bool := szOk x y && decide ((f.length : Int) = x * y) && f.all fnRow
theorem fnG_spec {x y : Int} {f : List (List Int)} (h : fnG x y f = true) : ∃ a b : Nat, x = a ∧ y = b ∧ 1 ≤ a ∧ a ≤ 3 ∧ 1 ≤ b ∧ b ≤ 3 ∧ f.length = a * b ∧ a * b ≤ 9 ∧ (∀ r, r ∈ f → r.length = 4) ∧ ∀ r, r ∈ f → ∀ v, v ∈ r → -99 ≤ v ∧ v ≤ 99 := by
  simp only [fnG, Bool.and_eq_true, decide_eq_true_eq, List.all_eq_true, fnRow, rowIn_iff] at h
  obtain ⟨⟨h1, h2⟩, h3⟩ := h
  obtain ⟨a, b, rfl, rfl, a1, a3, b1, b3, e, hab⟩ := szOk_nat h1
  exact ⟨a, b, rfl, rfl, a1, a3, b1, b3, by omega, hab, fun r hr => (h3 r hr).1, fun r hr => (h3 r hr).2⟩
theorem isFunctionalG_spec (x y : Int) (f : List (List Int)) (kf : SzM f) : FSpec Try.prog 138 [.c (.int .i64 (x)), .c (.int .i64 (y)), .t (.rows f)] (ex (.c (.bool (fnG x y f))) []) := by
  obtain ⟨k1, k2, k3⟩ := kf.all
  refine fspec tyOk mx Try.func138 rfl (by kernel_rfl) rfl ?_
  conv => whnf
  refine aloopI tyOk mx (fun i : Nat => (⟨35, [(0, .c (.int .i64 (x))), (1, .c (.int .i64 (y))), (2, .t (.rows f)), (9, .t (.rows f)), (10, .c (.int .i64 (f.length))), (11, .c (.int .i64 (i)))], [], 0⟩ : St)) (fun i => i ≤ f.length ∧ (f.take i).all fnRow = true) (fun i => f.length - i) 0 ⟨Nat.zero_le _, rfl⟩ none (by refine ⟨rfl, rfl, ?_, ?_⟩ <;> ((repeat' (first | exact trivial | exact rfl | refine And.intro ?_ ?_)) <;> (try ((conv => whnf); first | refine vint ?_ | refine vboo ?_ | refine rint ?_ | refine rrow ?_ | skip)) <;> (try first | omega | (simp; done) | ((repeat rw [flts_closed _ (by assumption)]); exact vws_closed _ (by assumption))))) (fun i hi => ?_)
  obtain ⟨hi, hp⟩ := hi
  refine ⟨fun h => ?_, fun h => ?_⟩
  · have h : i < f.length := by have := ltT h; omega
    have hri := k2 _ (getD_mem (d := []) h)
    conv => whnf
    refine ⟨i, rfl, h, ?_⟩
    conv => whnf
    refine ⟨fun h3 => ?_, fun h3 => ?_⟩
    · have h3 : (f.getD i []).length = 4 := by
        have : ((f.getD i []).length : Int) = 4 := by simpa using h3
        omega
      conv => whnf
      refine ACall.use (allWithin_spec (f.getD i []) _ _ (by omega)) ?_
      conv => whnf
      refine ⟨fun h4 => ?_, fun h4 => ?_⟩
      · have h4 : rowIn (f.getD i []) (-99) 99 = false := by simpa using h4
        conv => whnf
        refine ⟨?_, rfl⟩
        rw [fnG, all_false (d := []) h (by rw [fnRow, h4, Bool.and_false]), Bool.and_false]
      · have h4 : rowIn (f.getD i []) (-99) 99 = true := by simpa using h4
        conv => whnf
        rw [nat_wrap (by omega)]
        exact ⟨i + 1, none, (by refine ⟨rfl, rfl, ?_, ?_⟩ <;> ((repeat' (first | exact trivial | exact rfl | refine And.intro ?_ ?_)) <;> (try ((conv => whnf); first | refine vint ?_ | refine vboo ?_ | refine rint ?_ | refine rrow ?_ | skip)) <;> (try first | omega | (simp; done) | ((repeat rw [flts_closed _ (by assumption)]); exact vws_closed _ (by assumption))))), ⟨by omega, all_take_succ (d := []) h hp (by rw [fnRow, h4, decide_eq_true h3]; rfl)⟩, by omega⟩
    · have h3 : ¬ (f.getD i []).length = 4 := by
        intro e; rw [e] at h3; exact absurd h3 (by decide)
      conv => whnf
      (repeat (conv => whnf); (first | refine ⟨fun h => absurd h (by decide), fun _ => ?_⟩ | refine ⟨fun _ => ?_, fun h => absurd h (by decide)⟩)); conv => whnf
      refine ⟨?_, rfl⟩
      rw [fnG, all_false (d := []) h (by rw [fnRow, decide_eq_false h3, Bool.false_and]), Bool.and_false]
  · have h : ¬ i < f.length := by have := ltF h; omega
    have hall := all_end h hp
    conv => whnf
    refine ACall.use (areQuestions_spec x y) ?_
    conv => whnf
    refine ⟨fun hs => ?_, fun hs => ?_⟩
    · obtain ⟨a, b, rfl, rfl, _, a3, _, b3, exy, hab⟩ := szOk_nat hs
      have ew : IntKind.i64.wrap ((a : Int) * (b : Int)) = (a : Int) * b := by rw [exy]; exact w64 (by omega) (by omega)
      conv => whnf
      rw [ew]
      refine ⟨?_, rfl⟩
      rw [fnG, hall, Bool.and_true, hs, Bool.true_and]
      by_cases e : (f.length : Int) = (a : Int) * b
      · rw [decide_eq_true e]; simp [e]
      · rw [decide_eq_false e]; simp [e]
    · conv => whnf
      refine ⟨?_, rfl⟩
      rw [fnG, hs, Bool.false_and, Bool.false_and]

def woOk (x y z : Int) (m f : List (List Int)) : Bool := goodB x y z m && fnG x y f
def woV (x y z : Int) (m f : List (List Int)) : Int := if woOk x y z m f then worthF f m else 0
theorem WorthOf_i (x y z : Int) (m f : List (List Int)) (km : SzM m) (kf : SzM f) :
    FSpec Try.prog 44 [.t (.rows f), .ag [.c (.int .i64 (x)), .c (.int .i64 (y)), .c (.int .i64 (z)), .t (.rows m)]] (ex (.tu [.c (.int .i64 (woV x y z m f)), .c (.bool (woOk x y z m f))]) []) := by
  refine fspec tyOk mx Try.func44 rfl (by kernel_rfl) rfl ?_
  conv => whnf
  refine ACall.use (IsBox_spec x y z m km) ?_
  conv => whnf
  refine ⟨fun h => ?_, fun h => ?_⟩
  · conv => whnf
    refine ACall.use (isFunctionalG_spec x y f kf) ?_
    conv => whnf
    refine ⟨fun h2 => ?_, fun h2 => ?_⟩
    · have h2 : fnG x y f = false := by simpa using h2
      have e : woOk x y z m f = false := by rw [woOk, h2, Bool.and_false]
      conv => whnf
      exact ⟨by rw [woV, e]; rfl, rfl⟩
    · have h2 : fnG x y f = true := by simpa using h2
      have hg : goodB x y z m = true := by simpa using h
      have e : woOk x y z m f = true := by rw [woOk, hg, h2]; rfl
      obtain ⟨a, b, rfl, rfl, _, _, _, _, f1, _, f3, _⟩ := fnG_spec h2
      obtain ⟨a', b', ea, eb, _, _, _, _, _, _, g1, g2, g3⟩ := goodB_spec hg
      have ea : a = a' := by omega
      have eb : b = b' := by omega
      subst ea eb
      conv => whnf
      refine ACall.use (worth_spec f m (by rw [f1, g1]) (by omega) f3 (fun r hr => (g3 r hr).1)) ?_
      conv => whnf
      exact ⟨by rw [woV, e]; rfl, rfl⟩
  · have hg : goodB x y z m = false := by simpa using h
    have e : woOk x y z m f = false := by rw [woOk, hg, Bool.false_and]
    (repeat (conv => whnf); (first | refine ⟨fun h => absurd h (by decide), fun _ => ?_⟩ | refine ⟨fun _ => ?_, fun h => absurd h (by decide)⟩)); conv => whnf
    exact ⟨by rw [woV, e]; rfl, rfl⟩

theorem l2FunctionalG_spec (x y : Int) (f : List (List Int)) (kf : SzM f) : FSpec Try.prog 177 [.c (.int .i64 (x)), .c (.int .i64 (y)), .t (.rows f)] (ex (.c (.bool (fnG x y f))) []) := by
  obtain ⟨k1, k2, k3⟩ := kf.all
  refine fspec tyOk mx Try.func177 rfl (by kernel_rfl) rfl ?_
  conv => whnf
  refine ACall.use (l2Sizes_spec x y) ?_
  conv => whnf
  cases hs : szOk x y with
  | false =>
    (repeat (conv => whnf); (first | refine ⟨fun h => absurd h (by decide), fun _ => ?_⟩ | refine ⟨fun _ => ?_, fun h => absurd h (by decide)⟩)); conv => whnf
    refine ⟨?_, rfl⟩
    rw [fnG, hs, Bool.false_and, Bool.false_and]
  | true =>
  obtain ⟨a, b, ea, eb, _, a3, _, b3, exy, hab⟩ := szOk_nat hs
  have ew : IntKind.i64.wrap (x * y) = x * y := by rw [exy]; exact w64 (by omega) (by omega)
  (repeat (conv => whnf); (first | refine ⟨fun h => absurd h (by decide), fun _ => ?_⟩ | refine ⟨fun _ => ?_, fun h => absurd h (by decide)⟩)); conv => whnf
  rw [ew]
  refine ⟨fun h => ?_, fun h => ?_⟩
  · have h : ¬ (f.length : Int) = x * y := by
      intro e
      rw [e] at h
      simp at h
    conv => whnf
    refine ⟨?_, rfl⟩
    rw [fnG, decide_eq_false h, Bool.and_false, Bool.false_and]
  · have h0 : (f.length : Int) = x * y := by simpa using h
    clear h
    conv => whnf
    refine aloopI tyOk mx (fun i : Nat => (⟨51, [(2, .t (.rows f)), (7, .c (.int .i64 (i)))], [], 0⟩ : St)) (fun i => i ≤ f.length ∧ (f.take i).all fnRow = true) (fun i => f.length - i) 0 ⟨Nat.zero_le _, rfl⟩ none (by refine ⟨rfl, rfl, ?_, ?_⟩ <;> ((repeat' (first | exact trivial | exact rfl | refine And.intro ?_ ?_)) <;> (try ((conv => whnf); first | refine vint ?_ | refine vboo ?_ | refine rint ?_ | refine rrow ?_ | skip)) <;> (try first | omega | (simp; done) | ((repeat rw [flts_closed _ (by assumption)]); exact vws_closed _ (by assumption))))) (fun i hi => ?_)
    obtain ⟨hi, hp⟩ := hi
    refine ⟨fun h => ?_, fun h => ?_⟩
    · have h : i < f.length := by have := ltT h; omega
      have hri := k2 _ (getD_mem (d := []) h)
      conv => whnf
      refine aloopI tyOk mx (fun n : Nat => (⟨51, [(2, .t (.rows f)), (7, .c (.int .i64 (i))), (8, .c (.int .i64 (n)))], [], 0⟩ : St)) (fun n => n ≤ (f.getD i []).length ∧ ((f.getD i []).take n).all (fun x => inR x (-99) 99) = true) (fun n => (f.getD i []).length - n) 0 ⟨Nat.zero_le _, rfl⟩ none (by refine ⟨rfl, rfl, ?_, ?_⟩ <;> ((repeat' (first | exact trivial | exact rfl | refine And.intro ?_ ?_)) <;> (try ((conv => whnf); first | refine vint ?_ | refine vboo ?_ | refine rint ?_ | refine rrow ?_ | skip)) <;> (try first | omega | (simp; done) | ((repeat rw [flts_closed _ (by assumption)]); exact vws_closed _ (by assumption))))) (fun n hn => ?_)
      obtain ⟨hn, hq⟩ := hn
      refine ⟨i, rfl, h, ?_⟩
      conv => whnf
      refine ⟨fun h2 => ?_, fun h2 => ?_⟩
      · have h2 : n < (f.getD i []).length := by have := ltT h2; omega
        conv => whnf
        refine ⟨i, rfl, h, n, rfl, h2, ?_⟩
        conv => whnf
        refine ACall.use (l1In_spec _ _ _) ?_
        conv => whnf
        refine ⟨fun h3 => ?_, fun h3 => ?_⟩
        · have h3 : inR ((f.getD i []).getD n 0) (-99) 99 = false := by simpa using h3
          conv => whnf
          refine ⟨?_, rfl⟩
          rw [fnG, all_false (d := []) h (by rw [fnRow, rowIn, all_false (d := 0) h2 h3, Bool.and_false]), Bool.and_false]
        · have h3 : inR ((f.getD i []).getD n 0) (-99) 99 = true := by simpa using h3
          conv => whnf
          rw [nat_wrap (by omega)]
          exact ⟨n + 1, none, (by refine ⟨rfl, rfl, ?_, ?_⟩ <;> ((repeat' (first | exact trivial | exact rfl | refine And.intro ?_ ?_)) <;> (try ((conv => whnf); first | refine vint ?_ | refine vboo ?_ | refine rint ?_ | refine rrow ?_ | skip)) <;> (try first | omega | (simp; done) | ((repeat rw [flts_closed _ (by assumption)]); exact vws_closed _ (by assumption))))), ⟨by omega, all_take_succ (d := 0) h2 hq h3⟩, by omega⟩
      · have h2 : ¬ n < (f.getD i []).length := by have := ltF h2; omega
        have hrow : rowIn (f.getD i []) (-99) 99 = true := all_end h2 hq
        conv => whnf
        refine ⟨i, rfl, h, ?_⟩
        conv => whnf
        refine ⟨fun h3 => ?_, fun h3 => ?_⟩
        · have h3 : ¬ (f.getD i []).length = 4 := by
            intro e; rw [e] at h3; exact absurd h3 (by decide)
          conv => whnf
          refine ⟨?_, rfl⟩
          rw [fnG, all_false (d := []) h (by rw [fnRow, decide_eq_false h3, Bool.false_and]), Bool.and_false]
        · have h3 : (f.getD i []).length = 4 := by
            have : ((f.getD i []).length : Int) = 4 := by simpa using h3
            omega
          conv => whnf
          rw [nat_wrap (by omega)]
          exact ⟨i + 1, none, (by refine ⟨rfl, rfl, ?_, ?_⟩ <;> ((repeat' (first | exact trivial | exact rfl | refine And.intro ?_ ?_)) <;> (try ((conv => whnf); first | refine vint ?_ | refine vboo ?_ | refine rint ?_ | refine rrow ?_ | skip)) <;> (try first | omega | (simp; done) | ((repeat rw [flts_closed _ (by assumption)]); exact vws_closed _ (by assumption))))), ⟨by omega, all_take_succ (d := []) h hp (by rw [fnRow, hrow, decide_eq_true h3]; rfl)⟩, by omega⟩
    · have h : ¬ i < f.length := by have := ltF h; omega
      conv => whnf
      refine ⟨?_, rfl⟩
      rw [fnG, hs, decide_eq_true h0, all_end h hp]; rfl
theorem WorthOf_s (x y z : Int) (m f : List (List Int)) (km : SzM m) (kf : SzM f) :
    FSpec Try.prog 61 [.t (.rows f), .ag [.c (.int .i64 (x)), .c (.int .i64 (y)), .c (.int .i64 (z)), .t (.rows m)]] (ex (.tu [.c (.int .i64 (woV x y z m f)), .c (.bool (woOk x y z m f))]) []) := by
  refine fspec tyOk mx Try.func61 rfl (by kernel_rfl) rfl ?_
  conv => whnf
  refine ACall.use (l2Box_spec x y z m km) ?_
  conv => whnf
  refine ⟨fun h => ?_, fun h => ?_⟩
  · conv => whnf
    refine ACall.use (l2FunctionalG_spec x y f kf) ?_
    conv => whnf
    refine ⟨fun h2 => ?_, fun h2 => ?_⟩
    · have h2 : fnG x y f = false := by simpa using h2
      have e : woOk x y z m f = false := by rw [woOk, h2, Bool.and_false]
      conv => whnf
      exact ⟨by rw [woV, e]; rfl, rfl⟩
    · have h2 : fnG x y f = true := by simpa using h2
      have hg : goodB x y z m = true := by simpa using h
      have e : woOk x y z m f = true := by rw [woOk, hg, h2]; rfl
      obtain ⟨a, b, rfl, rfl, _, _, _, _, f1, _, f3, _⟩ := fnG_spec h2
      obtain ⟨a', b', ea, eb, _, _, _, _, _, _, g1, g2, g3⟩ := goodB_spec hg
      have ea : a = a' := by omega
      have eb : b = b' := by omega
      subst ea eb
      conv => whnf
      refine ACall.use (l2Worth_spec f m a b z (by rw [f1, g1]) (by omega) f3 (fun r hr => (g3 r hr).1)) ?_
      conv => whnf
      exact ⟨by rw [woV, e]; rfl, rfl⟩
  · have hg : goodB x y z m = false := by simpa using h
    have e : woOk x y z m f = false := by rw [woOk, hg, Bool.false_and]
    (repeat (conv => whnf); (first | refine ⟨fun h => absurd h (by decide), fun _ => ?_⟩ | refine ⟨fun _ => ?_, fun h => absurd h (by decide)⟩)); conv => whnf
    exact ⟨by rw [woV, e]; rfl, rfl⟩
end Go.Proofs.Ytkomndcehdneaaa
/- The worths of plays, and plays' boxes, of any sizes: reference and program. -/
namespace Go.Aw
theorem fo_flatG {α : Type} (f : α → Nat → α) (ny : Nat) (a : α) : ∀ n, fo (fun a i => fo (fun a k => f a (i * ny + k)) a ny) a n = fo f a (n * ny)
  | 0 => by rw [Nat.zero_mul]; rfl
  | n + 1 => by
    have ih := fo_flatG f ny a n
    show fo (fun a k => f a (n * ny + k)) (fo (fun a i => fo (fun a k => f a (i * ny + k)) a ny) a n) ny = _
    rw [ih, Nat.succ_mul]
    have h : ∀ k, fo (fun a k => f a (n * ny + k)) (fo f a (n * ny)) k = fo f a (n * ny + k) := fun k => by
      induction k with
      | zero => rfl
      | succ k ih => show f (fo (fun a k => f a (n * ny + k)) (fo f a (n * ny)) k) _ = _; rw [ih]; rfl
    exact h ny
theorem boxRows_row (num : Nat → Nat → Nat → Nat → Int) (ny : Nat) : ∀ nx {i k : Nat}, i < nx → k < ny → (boxRows num nx ny).getD (i * ny + k) [] = boxRow num i k
  | 0, i, k, hi, _ => absurd hi (Nat.not_lt_zero i)
  | n + 1, i, k, hi, hk => by
    have e : boxRows num (n + 1) ny = boxRows num n ny ++ (List.range ny).map (boxRow num n) := by
      simp [boxRows, List.range_succ]
    have hl := boxRows_len num n ny
    rw [e, List.getD_eq_getElem?_getD]
    by_cases h : i < n
    · have hlt : i * ny + k < n * ny := by
        have := Nat.mul_le_mul_right ny h
        rw [Nat.succ_mul] at this; omega
      rw [List.getElem?_append_left (by omega), ← List.getD_eq_getElem?_getD]
      exact boxRows_row num ny n h hk
    · obtain rfl : i = n := by omega
      rw [List.getElem?_append_right (by omega), hl, Nat.add_sub_cancel_left, ← List.getD_eq_getElem?_getD, range_getD hk]
theorem Wexp (x : Int) : W x = (x + 9223372036854775808) % 18446744073709551616 - 9223372036854775808 := by
  show IntKind.i64.wrap x = _
  rw [IntKind.wrap_i64]
theorem Wl (a b : Int) : W (W a + b) = W (a + b) := by simp only [Wexp]; omega
theorem Wr (a b : Int) : W (a + W b) = W (a + b) := by simp only [Wexp]; omega
theorem W0 : W 0 = 0 := rfl
theorem wRow_play {f m : List (List Int)} {j b : Nat} (h : m.getD j [] = (List.replicate 4 (0 : Int)).set b 1) (hb : b < 4) (a : Int) : wRow f m j a 4 = W (a + (f.getD j []).getD b 0) := by
  have e : wRow f m j a 4 = W (W (W (W (a + W ((f.getD j []).getD 0 0 * (m.getD j []).getD 0 0)) + W ((f.getD j []).getD 1 0 * (m.getD j []).getD 1 0)) + W ((f.getD j []).getD 2 0 * (m.getD j []).getD 2 0)) + W ((f.getD j []).getD 3 0 * (m.getD j []).getD 3 0)) := rfl
  rw [e, h]
  have h4 : b = 0 ∨ b = 1 ∨ b = 2 ∨ b = 3 := by omega
  rcases h4 with rfl | rfl | rfl | rfl <;> simp only [List.replicate, List.set, List.getD_cons_zero, List.getD_cons_succ, Int.mul_zero, Int.mul_one, W0, Int.add_zero, Wl, Wr, WW]
theorem pw_worth {f : List (List Int)} {p : List Int} {nx ny : Nat} (hp : ∀ v, v ∈ p → 0 ≤ v ∧ v ≤ 1) : worthF f (pgM p nx ny 1) = pwTo f p nx ny nx := by
  rw [worthF, wTo, pgM, boxRows_len, ← fo_flatG]
  refine fo_congr fun a i hi => fo_congr fun b k hk => ?_
  have h1 := bits_mem hp (i := i)
  have h2 := bits_mem hp (i := nx + k)
  refine wRow_play (b := bitIx p nx i k) ?_ (bitIx_eq hp nx i k).2 b
  rw [boxRows_row _ _ _ hi hk, ← pg_row (i := i) (k := k) (p := (p.getD i 0).toNat) (q := (p.getD (nx + k) 0).toNat) (by omega) (by omega) (by omega) (by omega)]
  congr 1
  unfold bitIx; omega
end Go.Aw
namespace Go.Proofs.Ytkomndcehdneaaa
open Go.Aw
set_option maxRecDepth 100000
set_option maxHeartbeats 4000000
def pyB (x y : Int) (p : List Int) : Bool := decide ((p.length : Int) = W (x + y)) && rowIn p 0 1
def pwOk (x y : Int) (f : List (List Int)) (p : List Int) : Bool := fnG x y f && pyB x y p
def pwV (x y : Int) (f : List (List Int)) (p : List Int) : Int := if pwOk x y f p then pwTo f p x.toNat y.toNat x.toNat else 0
theorem pyB_len {a b : Nat} {p : List Int} (h : pyB a b p = true) (ha : a ≤ 3) (hb : b ≤ 3) : p.length = a + b ∧ ∀ v, v ∈ p → 0 ≤ v ∧ v ≤ 1 := by
  simp only [pyB, Bool.and_eq_true, decide_eq_true_eq] at h
  obtain ⟨h1, h2⟩ := h
  rw [show W ((a : Int) + (b : Int)) = (a : Int) + b from w64 (by omega) (by omega)] at h1
  exact ⟨by omega, fun v hv => rowIn_iff.1 h2 v hv⟩
theorem PlayWorth_i (x y : Int) (f : List (List Int)) (p : List Int) (kf : SzM f) (kp : SzI p) :
    FSpec Try.prog 45 [.c (.int .i64 (x)), .c (.int .i64 (y)), .t (.rows f), .t (.ints .i64 p)] (ex (.tu [.c (.int .i64 (pwV x y f p)), .c (.bool (pwOk x y f p))]) []) := by
  refine fspec tyOk mx Try.func45 rfl (by kernel_rfl) rfl ?_
  conv => whnf
  refine ACall.use (isFunctionalG_spec x y f kf) ?_
  conv => whnf
  refine ⟨fun h => ?_, fun h => ?_⟩
  · have h : fnG x y f = true := by simpa using h
    conv => whnf
    refine ACall.use (isPlay_spec x y p kp) ?_
    conv => whnf
    refine ⟨fun h2 => ?_, fun h2 => ?_⟩
    · have h2 : pyB x y p = false := by change (!pyB x y p) = true at h2; simpa using h2
      have e : pwOk x y f p = false := by rw [pwOk, h2, Bool.and_false]
      conv => whnf
      exact ⟨by rw [pwV, e]; rfl, rfl⟩
    · have h2 : pyB x y p = true := by change (!pyB x y p) = false at h2; simpa using h2
      have e : pwOk x y f p = true := by rw [pwOk, h, h2]; rfl
      obtain ⟨a, b, rfl, rfl, _, a3, _, b3, f1, _, f3, _⟩ := fnG_spec h
      obtain ⟨p1, p2⟩ := pyB_len h2 a3 b3
      conv => whnf
      refine ACall.use (playWorth_spec a b f p a3 b3 f1 f3 p2 p1) ?_
      conv => whnf
      exact ⟨by rw [pwV, e]; rfl, rfl⟩
  · have h : fnG x y f = false := by simpa using h
    have e : pwOk x y f p = false := by rw [pwOk, h, Bool.false_and]
    (repeat (conv => whnf); (first | refine ⟨fun h => absurd h (by decide), fun _ => ?_⟩ | refine ⟨fun _ => ?_, fun h => absurd h (by decide)⟩)); conv => whnf
    exact ⟨by rw [pwV, e]; rfl, rfl⟩
theorem l2PlayA_spec (x y : Int) (p : List Int) (kp : SzI p) :
    FSpec Try.prog 179 [.c (.int .i64 (x)), .c (.int .i64 (y)), .t (.ints .i64 p)] (ex (.c (.bool (szOk x y && pyB x y p))) []) := by
  have kp' : p.length ≤ 1048576 := kp
  refine fspec tyOk mx Try.func179 rfl (by kernel_rfl) rfl ?_
  conv => whnf
  refine ACall.use (l2Sizes_spec x y) ?_
  conv => whnf
  refine ⟨fun h => ?_, fun h => ?_⟩
  · have h : szOk x y = true := by simpa using h
    conv => whnf
    refine ACall.use (l2Bits_spec p _ (by omega)) ?_
    conv => whnf
    exact ⟨by rw [h, pyB, Bool.true_and, Bool.and_comm], rfl⟩
  · have h : szOk x y = false := by simpa using h
    conv => whnf
    exact ⟨by rw [h, Bool.false_and], rfl⟩
theorem PlayWorth_s (x y : Int) (f : List (List Int)) (p : List Int) (kf : SzM f) (kp : SzI p) :
    FSpec Try.prog 63 [.c (.int .i64 (x)), .c (.int .i64 (y)), .t (.rows f), .t (.ints .i64 p)] (ex (.tu [.c (.int .i64 (pwV x y f p)), .c (.bool (pwOk x y f p))]) []) := by
  refine fspec tyOk mx Try.func63 rfl (by kernel_rfl) rfl ?_
  conv => whnf
  refine ACall.use (l2PlayA_spec x y p kp) ?_
  conv => whnf
  refine ⟨fun h => ?_, fun h => ?_⟩
  · have h2 : (szOk x y && pyB x y p) = true := by simpa using h
    conv => whnf
    refine ACall.use (l2FunctionalG_spec x y f kf) ?_
    conv => whnf
    refine ⟨fun h => ?_, fun h => ?_⟩
    · have h : fnG x y f = false := by simpa using h
      have e : pwOk x y f p = false := by rw [pwOk, h, Bool.false_and]
      conv => whnf
      exact ⟨by rw [pwV, e]; rfl, rfl⟩
    · have h : fnG x y f = true := by simpa using h
      have h2 : pyB x y p = true := (Bool.and_eq_true_iff.1 h2).2
      have e : pwOk x y f p = true := by rw [pwOk, h, h2]; rfl
      obtain ⟨a, b, rfl, rfl, _, a3, _, b3, f1, fl, f3, _⟩ := fnG_spec h
      obtain ⟨p1, p2⟩ := pyB_len h2 a3 b3
      have hm : (pgM p a b 1).length = a * b := boxRows_len _ _ _
      conv => whnf
      refine ACall.use (l2PlayBoxG_spec a b a3 b3 p p1 p2 1) ?_
      conv => whnf
      refine ACall.use (l2Worth_spec f (pgM p a b 1) a b 1 (by rw [f1, hm]) (by omega) f3 (boxRows_rows _ _ _)) ?_
      conv => whnf
      exact ⟨by rw [pwV, e, pw_worth p2]; rfl, rfl⟩
  · have h2 : (szOk x y && pyB x y p) = false := by
      change (!(szOk x y && pyB x y p)) = true at h
      generalize (szOk x y && pyB x y p) = q at h ⊢
      simpa using h
    have e : pwOk x y f p = false := by
      rw [pwOk]
      cases hf : fnG x y f with
      | false => rfl
      | true =>
        rw [fnG] at hf
        simp only [Bool.and_eq_true] at hf
        rw [hf.1.1, Bool.true_and] at h2
        rw [h2]; rfl
    (repeat (conv => whnf); (first | refine ⟨fun h => absurd h (by decide), fun _ => ?_⟩ | refine ⟨fun _ => ?_, fun h => absurd h (by decide)⟩)); conv => whnf
    exact ⟨by rw [pwV, e]; rfl, rfl⟩
def plOk (x y : Int) (p : List Int) (w : Int) : Bool := szOk x y && (pyB x y p && inR w 1 1000)
def plR (x y : Int) (p : List Int) (w : Int) : List (List Int) := if plOk x y p w then pgM p x.toNat y.toNat w else []
theorem PlayBox_i (x y : Int) (p : List Int) (w : Int) (kp : SzI p) :
    FSpec Try.prog 64 [.c (.int .i64 (x)), .c (.int .i64 (y)), .t (.ints .i64 p), .c (.int .i64 (w))]
      (ex (.tu [.ag [.c (.int .i64 (if plOk x y p w then x else 0)), .c (.int .i64 (if plOk x y p w then y else 0)), .c (.int .i64 (if plOk x y p w then w else 0)), .own 0], .c (.bool (plOk x y p w))]) [(0, .rows 25 3 true (plR x y p w))]) := by
  refine view_box ?_
  refine fspec tyOk mx Try.func64 rfl (by kernel_rfl) rfl ?_
  conv => whnf
  refine ACall.use (areQuestions_spec x y) ?_
  conv => whnf
  refine ⟨fun h => ?_, fun h => ?_⟩
  · have h : szOk x y = true := by simpa using h
    conv => whnf
    refine ACall.use (isPlay_spec x y p kp) ?_
    conv => whnf
    refine ⟨fun h2 => ?_, fun h2 => ?_⟩
    · have h2 : pyB x y p = true := by change (!pyB x y p) = false at h2; simpa using h2
      conv => whnf
      refine ACall.use (within_spec _ _ _) ?_
      conv => whnf
      refine ⟨fun h3 => ?_, fun h3 => ?_⟩
      · have h3 : inR w 1 1000 = false := by simpa using h3
        have e : plOk x y p w = false := by rw [plOk, h, h2, h3]; rfl
        conv => whnf
        exact .inl ⟨e, rfl, rfl⟩
      · have h3 : inR w 1 1000 = true := by simpa using h3
        have e : plOk x y p w = true := by rw [plOk, h, h2, h3]; rfl
        obtain ⟨a, b, rfl, rfl, _, a3, _, b3, _, _⟩ := szOk_nat h
        obtain ⟨p1, p2⟩ := pyB_len h2 a3 b3
        conv => whnf
        refine ACall.use (playBoxG_spec a b a3 b3 p p1 w) ?_
        conv => whnf
        exact .inr ⟨e, rfl, rfl⟩
    · have h2 : pyB x y p = false := by change (!pyB x y p) = true at h2; simpa using h2
      have e : plOk x y p w = false := by rw [plOk, h, h2]; rfl
      (repeat (conv => whnf); (first | refine ⟨fun h => absurd h (by decide), fun _ => ?_⟩ | refine ⟨fun _ => ?_, fun h => absurd h (by decide)⟩)); conv => whnf
      exact .inl ⟨e, rfl, rfl⟩
  · have h : szOk x y = false := by simpa using h
    have e : plOk x y p w = false := by rw [plOk, h]; rfl
    (repeat (conv => whnf); (first | refine ⟨fun h => absurd h (by decide), fun _ => ?_⟩ | refine ⟨fun _ => ?_, fun h => absurd h (by decide)⟩)); conv => whnf
    exact .inl ⟨e, rfl, rfl⟩
end Go.Proofs.Ytkomndcehdneaaa
/- Mixtures: what the law asks, in plain terms. -/
namespace Go.Proofs.Ytkomndcehdneaaa
open Go.Aw
set_option maxRecDepth 100000
set_option maxHeartbeats 4000000

theorem good_val {x y z : Int} {m : List (List Int)} (h : goodB x y z m = true) {p q : Nat} (hp : p < m.length) (hq : q < 4) : 0 ≤ (m.getD p []).getD q 0 ∧ (m.getD p []).getD q 0 ≤ z := by
  obtain ⟨na, nb, _, _, _, _, _, _, _, _, _, _, g9⟩ := goodB_spec h
  obtain ⟨h4, hv, _⟩ := g9 _ (getD_mem (d := []) hp)
  exact hv _ (getD_mem (d := 0) (by omega))
theorem good_z {x y z : Int} {m : List (List Int)} (h : goodB x y z m = true) : 1 ≤ z ∧ z ≤ 1000 := by
  obtain ⟨na, nb, _, _, _, _, _, _, g5, g6, _⟩ := goodB_spec h
  exact ⟨g5, g6⟩
theorem good_len {x y z : Int} {m : List (List Int)} (h : goodB x y z m = true) : 1 ≤ m.length ∧ m.length ≤ 9 := by
  obtain ⟨na, nb, _, _, g1, _, g3, _, _, _, g7, g8, _⟩ := goodB_spec h
  have : 1 * 1 ≤ na * nb := Nat.mul_le_mul g1 g3
  omega
theorem alkB_of {z z' : Int} {m m' : List (List Int)} (h : ∀ p q, p < m.length → q < 4 → (m.getD p []).getD q 0 * z' = (m'.getD p []).getD q 0 * z) : alkB z z' m m' = true := by
  simp only [alkB, List.all_eq_true, List.mem_range, alkN, decide_eq_true_eq]
  intro p hp q hq
  rw [h p q hp hq]
theorem sqB_of {x y z z' : Int} {m m' : List (List Int)} (h : goodB x y z m = true) (h' : goodB x y z' m' = true) : sqB x y z m x y z' m' = true := by
  simp [sqB, h, h']

/-- a scaled box is alike -/
theorem sc_alike {x y z k : Int} {m : List (List Int)} (h : skOk x y z m k = true) :
    sqB x y z m x y (k * z) (skR x y z m k) = true ∧ aaV x y z m x y (k * z) (skR x y z m k) = true := by
  have h0 := h
  simp only [skOk, Bool.and_eq_true, decide_eq_true_eq] at h0
  obtain ⟨⟨hg, hk⟩, hz⟩ := h0
  have hk := inR_iff.1 hk
  rw [skR, if_pos h]
  have hs := sqB_of hg (sc_good hg hk.1 hz)
  refine ⟨hs, ?_⟩
  rw [aaV, hs, Bool.true_and]
  refine alkB_of fun p q hp hq => ?_
  obtain ⟨v0, v1⟩ := good_val hg hp hq
  have k0 := Int.mul_nonneg (a := k) (by omega) v0
  have k1 : k * (m.getD p []).getD q 0 ≤ k * z := Int.mul_le_mul_of_nonneg_left v1 (by omega)
  rw [grid_get hp hq, scN, wS (by omega) (by omega), Int.mul_comm k z, ← Int.mul_assoc, Int.mul_comm _ k, ← Int.mul_assoc]

theorem dvd_gcR {m : List (List Int)} {i g d : Nat} (hg : d ∣ g) : ∀ n, (∀ k, k < n → d ∣ ((m.getD i []).getD k 0).toNat) → d ∣ gcR m i g n
  | 0, _ => hg
  | n + 1, h => Nat.dvd_gcd (dvd_gcR hg n fun k hk => h k (by omega)) (h n (by omega))
theorem dvd_gcM {z : Int} {m : List (List Int)} {d : Nat} (hz : d ∣ z.toNat) : ∀ n, (∀ i k, i < n → k < 4 → d ∣ ((m.getD i []).getD k 0).toNat) → d ∣ gcM z m n
  | 0, _ => hz
  | n + 1, h => dvd_gcR (dvd_gcM hz n fun i k hi hk => h i k (by omega) hk) 4 fun k hk => h n k (by omega) hk

theorem gcR_dvdG (m : List (List Int)) (i : Nat) {g : Nat} : ∀ n, gcR m i g n ∣ g ∧ ∀ k, k < n → gcR m i g n ∣ ((m.getD i []).getD k 0).toNat
  | 0 => ⟨Nat.dvd_refl _, fun k h => by omega⟩
  | n + 1 => by
    obtain ⟨h1, h2⟩ := gcR_dvdG m i (g := g) n
    have e : gcR m i g (n + 1) = Nat.gcd (gcR m i g n) ((m.getD i []).getD n 0).toNat := rfl
    rw [e]
    refine ⟨Nat.dvd_trans (Nat.gcd_dvd_left _ _) h1, fun k hk => ?_⟩
    by_cases hkn : k = n
    · subst hkn; exact Nat.gcd_dvd_right _ _
    · exact Nat.dvd_trans (Nat.gcd_dvd_left _ _) (h2 k (by omega))
theorem gcM_dvdG (z : Int) (m : List (List Int)) : ∀ n, gcM z m n ∣ z.toNat ∧ ∀ i k, i < n → k < 4 → gcM z m n ∣ ((m.getD i []).getD k 0).toNat
  | 0 => ⟨Nat.dvd_refl _, fun i k h => by omega⟩
  | n + 1 => by
    obtain ⟨h1, h2⟩ := gcM_dvdG z m n
    have e : gcM z m (n + 1) = gcR m n (gcM z m n) 4 := rfl
    obtain ⟨h3, h4⟩ := gcR_dvdG m n (g := gcM z m n) 4
    rw [e]
    refine ⟨Nat.dvd_trans h3 h1, fun i k hi hk => ?_⟩
    by_cases hin : i = n
    · subst hin; exact h4 k hk
    · exact Nat.dvd_trans h3 (h2 i k (by omega) hk)

/-- the quotient by a divisor -/
theorem quo_ofG {g : Nat} {t : Int} (hg : 0 < g) (ht : 0 ≤ t) (hd : g ∣ t.toNat) (h2 : t ≤ 100000) : ∃ q : Nat, t = (g : Int) * (q : Int) ∧ (q : Int) ≤ t ∧ t.toNat = g * q ∧ W (Int.tdiv t g) = q := by
  obtain ⟨c, hc⟩ := hd
  have e : t = (g : Int) * (c : Int) := by rw [← Int.natCast_mul, ← hc]; omega
  have hcl : (c : Int) ≤ t := by
    have : c ≤ t.toNat := by rw [hc]; exact Nat.le_mul_of_pos_left c hg
    omega
  refine ⟨c, e, hcl, hc, ?_⟩
  have e2 : Int.tdiv t g = c := by rw [e]; exact Int.mul_tdiv_cancel_left _ (by omega)
  rw [e2]
  exact wS (by omega) (by omega)

/-- a reduced box is good and alike; it is reduced already; its Whole divides -/
theorem rd_facts {x y z : Int} {m : List (List Int)} (h : goodB x y z m = true) :
    let g := gcM z m m.length
    let w := rdW z g
    let m' := grid m.length (rdgN m g)
    goodB x y w m' = true ∧ sqB x y z m x y w m' = true ∧ aaV x y z m x y w m' = true ∧ rdW w (gcM w m' m'.length) = w ∧ grid m'.length (rdgN m' (gcM w m' m'.length)) = m' ∧ w ≠ 0 ∧ Int.tmod z w = 0 := by
  intro g w m'
  obtain ⟨z1, z2⟩ := good_z h
  have hg : 0 < g := (gcM_bd z m z1 m.length).1
  obtain ⟨dz, dm⟩ := gcM_dvdG z m m.length
  obtain ⟨wq, ew, lw, nw, Ww⟩ := quo_ofG hg (by omega) dz (by omega)
  have hw : w = wq := Ww
  have hw1 : 1 ≤ wq := by
    rcases Nat.eq_zero_or_pos wq with h0 | h0
    · rw [h0] at ew; simp at ew; omega
    · exact h0
  have ent : ∀ p q, p < m.length → q < 4 → ∃ c : Nat, (m.getD p []).getD q 0 = (g : Int) * (c : Int) ∧ (m'.getD p []).getD q 0 = c ∧ ((m.getD p []).getD q 0).toNat = g * c := fun p q hp hq => by
    obtain ⟨v0, v1⟩ := good_val h hp hq
    obtain ⟨c, e1, e2, e3, e4⟩ := quo_ofG hg v0 (dm p q hp hq) (by omega)
    exact ⟨c, e1, by rw [grid_get hp hq]; exact e4, e3⟩
  have hl : m'.length = m.length := grid_len _ _
  have gm : goodB x y w m' = true := by
    have h0 := h
    simp only [goodB, Bool.and_eq_true, decide_eq_true_eq, List.all_eq_true] at h0
    obtain ⟨⟨⟨h1, h2⟩, h3⟩, h4⟩ := h0
    simp only [goodB, Bool.and_eq_true, decide_eq_true_eq, List.all_eq_true]
    refine ⟨⟨⟨h1, inR_iff.2 (by omega)⟩, by rw [hl]; exact h3⟩, fun r hr => ?_⟩
    obtain ⟨p, hp, rfl⟩ := List.mem_map.1 hr
    have hp := List.mem_range.1 hp
    obtain ⟨a, b, c, d, e, ha, hb, hc, hd, hs⟩ := row4g (h4 _ (getD_mem (d := []) hp)) z2
    obtain ⟨q0, e0, f0, _⟩ := ent p 0 hp (by omega)
    obtain ⟨q1, e1, f1, _⟩ := ent p 1 hp (by omega)
    obtain ⟨q2, e2, f2, _⟩ := ent p 2 hp (by omega)
    obtain ⟨q3, e3, f3, _⟩ := ent p 3 hp (by omega)
    rw [e] at e0 e1 e2 e3
    simp only [List.getD_cons_zero, List.getD_cons_succ] at e0 e1 e2 e3
    have eR : gridR (rdgN m g) p = [(q0 : Int), q1, q2, q3] := by
      have := grid_row (G := rdgN m g) hp
      rw [show grid m.length (rdgN m g) = m' from rfl] at this
      have er : m'.getD p [] = gridR (rdgN m g) p := by rw [this]; rfl
      rw [← er]
      rw [this] at f0 f1 f2 f3 ⊢
      simp only [List.getD_cons_zero, List.getD_cons_succ] at f0 f1 f2 f3
      rw [f0, f1, f2, f3]
    have es : (q0 : Int) + q1 + q2 + q3 = w := by
      have : (g : Int) * ((q0 : Int) + q1 + q2 + q3) = (g : Int) * wq := by simp only [Int.mul_add]; omega
      rw [hw]; exact Int.eq_of_mul_eq_mul_left (by omega) this
    rw [eR]
    exact rowOk_mk (by omega) (by omega) (by omega) (by omega) es (by omega)
  have gq : gcM w m' m'.length = 1 := by
    obtain ⟨dz', dm'⟩ := gcM_dvdG w m' m'.length
    have : g * gcM w m' m'.length ∣ g := by
      refine dvd_gcM ?_ _ fun i k hi hk => ?_
      · rw [nw]; refine Nat.mul_dvd_mul_left g ?_
        have : w.toNat = wq := by omega
        rw [← this]; exact dz'
      · obtain ⟨c, _, e2, e3⟩ := ent i k hi hk
        rw [e3]; refine Nat.mul_dvd_mul_left g ?_
        have h6 := dm' i k (hl ▸ hi) hk
        rw [e2] at h6; exact h6
    have h7 : g * gcM w m' m'.length ∣ g * 1 := by rw [Nat.mul_one]; exact this
    exact Nat.dvd_one.1 (Nat.dvd_of_mul_dvd_mul_left hg h7)
  have hs := sqB_of h gm
  refine ⟨gm, hs, ?_, ?_, ?_, by omega, ?_⟩
  · rw [aaV, hs, Bool.true_and]
    refine alkB_of fun p q hp hq => ?_
    obtain ⟨c, e1, e2, _⟩ := ent p q hp hq
    rw [e1, e2, hw, ew]
    simp only [Int.mul_comm, Int.mul_left_comm, Int.mul_assoc]
  · rw [gq, rdW, hw]
    show W (Int.tdiv (wq : Int) 1) = wq
    rw [Int.tdiv_one]; exact wS (by omega) (by omega)
  · rw [gq]
    conv => rhs; rw [← grid_eta (m := m') grid_rows]
    refine grid_congr fun p q hp hq => ?_
    have hp : p < m.length := by omega
    obtain ⟨c, e1, e2, _⟩ := ent p q hp hq
    have v := good_val h hp hq
    rw [rdgN, e2]
    show W (Int.tdiv (c : Int) 1) = c
    have hc : (c : Int) ≤ (g : Int) * (c : Int) := by
      have := Int.mul_le_mul_of_nonneg_right (a := 1) (b := (g : Int)) (c := (c : Int)) (by omega) (by omega)
      omega
    rw [Int.tdiv_one]; exact wS (by omega) (by omega)
  · rw [hw, ew]; exact Int.mul_tmod_left _ _

/-- the functional of the law -/
def sumR (i : Nat) : List Int := [(i : Int), W (1 - (i : Int)), 2, W (W (3 * (i : Int)) - 4)]
def sumF' (n : Nat) : List (List Int) := (List.range n).map sumR
theorem sum_fn {x y z : Int} {m : List (List Int)} (h : goodB x y z m = true) : fnG x y (sumF' m.length) = true := by
  obtain ⟨na, nb, rfl, rfl, g1, g2, g3, g4, _, _, g7, g8, _⟩ := goodB_spec h
  have h1 : szOk (na : Int) (nb : Int) = true := by
    simp only [goodB, Bool.and_eq_true] at h
    exact h.1.1.1
  rw [fnG, h1, Bool.true_and, Bool.and_eq_true, decide_eq_true_eq, List.all_eq_true]
  refine ⟨by simp only [sumF', List.length_map, List.length_range, g7]; exact Int.natCast_mul _ _, fun r hr => ?_⟩
  obtain ⟨i, hi, rfl⟩ := List.mem_map.1 hr
  have hi := List.mem_range.1 hi
  have : i < 9 := by omega
  have : i = 0 ∨ i = 1 ∨ i = 2 ∨ i = 3 ∨ i = 4 ∨ i = 5 ∨ i = 6 ∨ i = 7 ∨ i = 8 := by omega
  rcases this with rfl | rfl | rfl | rfl | rfl | rfl | rfl | rfl | rfl <;> decide

theorem W_add3 (a b u v : Int) : W (W (a + W u) + W (b + W v)) = W (W (a + b) + W (u + v)) := by simp only [Wexp]; omega
/-- worths of a mixture are sums -/
theorem wRow_mix {f a b c : List (List Int)} {i : Nat} : ∀ n, (∀ k, k < n → (c.getD i []).getD k 0 = (a.getD i []).getD k 0 + (b.getD i []).getD k 0) → ∀ A B : Int, W (wRow f a i A n + wRow f b i B n) = wRow f c i (W (A + B)) n
  | 0, _, A, B => rfl
  | n + 1, h, A, B => by
    have ih := wRow_mix (f := f) n (fun k hk => h k (by omega)) A B
    show W (W (wRow f a i A n + W ((f.getD i []).getD n 0 * (a.getD i []).getD n 0)) + W (wRow f b i B n + W ((f.getD i []).getD n 0 * (b.getD i []).getD n 0))) = W (wRow f c i (W (A + B)) n + W ((f.getD i []).getD n 0 * (c.getD i []).getD n 0))
    rw [W_add3, ih, h n (by omega), Int.mul_add]
theorem wTo_mix {f a b c : List (List Int)} : ∀ n, (∀ i k, i < n → k < 4 → (c.getD i []).getD k 0 = (a.getD i []).getD k 0 + (b.getD i []).getD k 0) → W (wTo f a n + wTo f b n) = wTo f c n
  | 0, _ => rfl
  | n + 1, h => by
    have ih := wTo_mix (f := f) n fun i k hi hk => h i k (by omega) hk
    show W (wRow f a n (wTo f a n) 4 + wRow f b n (wTo f b n) 4) = wRow f c n (wTo f c n) 4
    rw [wRow_mix 4 (fun k hk => h n k (by omega) hk), ih]

theorem mix_val {x y z z' : Int} {m m' : List (List Int)} (h : goodB x y z m = true) (h' : goodB x y z' m' = true) {p q : Nat} (hp : p < m.length) (hq : q < 4) (hl : m'.length = m.length) :
    ((grid m.length (mxN m m')).getD p []).getD q 0 = (m.getD p []).getD q 0 + (m'.getD p []).getD q 0 := by
  have a := good_val h hp hq
  have b := good_val h' (show p < m'.length by omega) hq
  have c := good_z h
  have d := good_z h'
  rw [grid_get hp hq, mxN]; exact wS (by omega) (by omega)

/-- a mixture: worths are sums, and quiet boxes stay quiet -/
theorem mix_facts {x y z x' y' z' : Int} {m m' : List (List Int)} (h : mbOk x y z m x' y' z' m' = true) :
    let s := mbR x y z m x' y' z' m'
    x = x' ∧ y = y' ∧ goodB x y z m = true ∧ goodB x y z' m' = true ∧ goodB x y (z + z') s = true ∧ m'.length = m.length ∧ W (worthF (sumF' m.length) m + worthF (sumF' m.length) m') = worthF (sumF' m.length) s ∧
      (quietB x y z m = true → quietB x y z' m' = true → quietB x y (z + z') s = true) := by
  intro s
  have h0 := h
  rw [mbOk, Bool.and_eq_true, decide_eq_true_eq] at h0
  obtain ⟨hs, hz⟩ := h0
  obtain ⟨hg, hg', rfl, rfl⟩ := sqB_spec hs
  have es : s = grid m.length (mxN m m') := if_pos h
  have hl : m'.length = m.length := by
    obtain ⟨na, nb, e1, e2, _, _, _, _, _, _, g7, _⟩ := goodB_spec hg
    obtain ⟨na', nb', e1', e2', _, _, _, _, _, _, g7', _⟩ := goodB_spec hg'
    rw [g7, g7', show na' = na by omega, show nb' = nb by omega]
  have gs : goodB x y (z + z') s = true := by rw [es]; exact mx_good hg hg' hz
  have sl : s.length = m.length := by rw [es, grid_len]
  have val : ∀ p q, p < m.length → q < 4 → (s.getD p []).getD q 0 = (m.getD p []).getD q 0 + (m'.getD p []).getD q 0 := fun p q hp hq => by rw [es]; exact mix_val hg hg' hp hq hl
  refine ⟨rfl, rfl, hg, hg', gs, hl, ?_, fun hq1 hq2 => ?_⟩
  · unfold worthF
    rw [hl, sl]; exact wTo_mix _ val
  · obtain ⟨na, nb, rfl, rfl, g1, g2, g3, g4, _, _, g7, g8, g9⟩ := goodB_spec hg
    rw [quietB, hg, Bool.true_and] at hq1
    rw [quietB, hg', Bool.true_and] at hq2
    rw [quietB, gs, Bool.true_and]
    simp only [quietF, Bool.and_eq_true, List.all_eq_true, List.mem_range, q0r, q1r, q0, q1, beq_iff_eq, Int.toNat_natCast] at hq1 hq2 ⊢
    have o0 : ∀ p, p < m.length → one0 (s.getD p []) = W (one0 (m.getD p []) + one0 (m'.getD p [])) := fun p hp => by
      simp only [one0, val p 2 hp (by omega), val p 3 hp (by omega)]; simp only [Wexp]; omega
    have o1 : ∀ p, p < m.length → one1 (s.getD p []) = W (one1 (m.getD p []) + one1 (m'.getD p [])) := fun p hp => by
      simp only [one1, val p 1 hp (by omega), val p 3 hp (by omega)]; simp only [Wexp]; omega
    refine ⟨fun i hi k hk => ?_, fun k hk i hi => ?_⟩
    · have a1 := ix_lt hi hk
      have a2 := ix_lt hi (show 0 < nb by omega)
      rw [o0 _ (by omega), o0 _ (by omega), hq1.1 i hi k hk, hq2.1 i hi k hk]
    · have a1 := ix_lt hi hk
      have a2 := ix_lt (show 0 < na by omega) hk
      rw [o1 _ (by omega), o1 _ (by omega), hq1.2 k hk i hi, hq2.2 k hk i hi]

/-- a play's box is good -/
theorem pg_good {nx ny : Nat} {p : List Int} {w : Int} (x1 : 1 ≤ nx) (x3 : nx ≤ 3) (y1 : 1 ≤ ny) (y3 : ny ≤ 3) (hp : ∀ v, v ∈ p → 0 ≤ v ∧ v ≤ 1) (w1 : 1 ≤ w) (w2 : w ≤ 1000) : goodB nx ny w (pgM p nx ny w) = true := by
  simp only [goodB, Bool.and_eq_true, decide_eq_true_eq, List.all_eq_true]
  refine ⟨⟨⟨?_, inR_iff.2 ⟨w1, w2⟩⟩, by rw [pgM, boxRows_len]; exact Int.natCast_mul _ _⟩, fun r hr => ?_⟩
  · rw [szOk, Bool.and_eq_true]; exact ⟨inR_iff.2 (by omega), inR_iff.2 (by omega)⟩
  · rw [pgM, boxRows, List.mem_flatMap] at hr
    obtain ⟨i, hi, hr⟩ := hr
    obtain ⟨k, hk, rfl⟩ := List.mem_map.1 hr
    have h1 := bits_mem hp (i := i)
    have h2 := bits_mem hp (i := nx + k)
    rw [← pg_row (i := i) (k := k) (p := (p.getD i 0).toNat) (q := (p.getD (nx + k) 0).toNat) (by omega) (by omega) (by omega) (by omega)]
    have c1 : (p.getD i 0).toNat = 0 ∨ (p.getD i 0).toNat = 1 := by omega
    have c2 : (p.getD (nx + k) 0).toNat = 0 ∨ (p.getD (nx + k) 0).toNat = 1 := by omega
    rcases c1 with e1 | e1 <;> rcases c2 with e2 | e2 <;> rw [e1, e2]
    · exact rowOk_mk (a := w) (b := 0) (c := 0) (d := 0) (by omega) (by omega) (by omega) (by omega) (by omega) w2
    · exact rowOk_mk (a := 0) (b := w) (c := 0) (d := 0) (by omega) (by omega) (by omega) (by omega) (by omega) w2
    · exact rowOk_mk (a := 0) (b := 0) (c := w) (d := 0) (by omega) (by omega) (by omega) (by omega) (by omega) w2
    · exact rowOk_mk (a := 0) (b := 0) (c := 0) (d := w) (by omega) (by omega) (by omega) (by omega) (by omega) w2
/-- the worth of a play's box -/
theorem py_worth {x y : Int} {f : List (List Int)} {p : List Int} (h : pwOk x y f p = true) : plOk x y p 1 = true ∧ woOk x y 1 (plR x y p 1) f = true ∧ woV x y 1 (plR x y p 1) f = pwV x y f p := by
  have h0 := h
  rw [pwOk, Bool.and_eq_true] at h0
  obtain ⟨hf, hp⟩ := h0
  have hs : szOk x y = true := by rw [fnG, Bool.and_eq_true, Bool.and_eq_true] at hf; exact hf.1.1
  have hf0 := hf
  obtain ⟨nx, ny, rfl, rfl, x1, x3, y1, y3, _⟩ := fnG_spec hf0
  obtain ⟨hl, h01⟩ := pyB_len hp x3 y3
  have hk : plOk (nx : Int) (ny : Int) p 1 = true := by rw [plOk, hs, hp]; rfl
  have e : plR (nx : Int) (ny : Int) p 1 = pgM p nx ny 1 := by rw [plR, if_pos hk, Int.toNat_natCast, Int.toNat_natCast]
  have hg := pg_good x1 x3 y1 y3 h01 (w := 1) (by omega) (by omega)
  have hw : woOk (nx : Int) (ny : Int) 1 (plR (nx : Int) (ny : Int) p 1) f = true := by rw [woOk, e, hg, hf]; rfl
  refine ⟨hk, hw, ?_⟩
  rw [woV, if_pos hw, e, pw_worth h01, pwV, if_pos h, Int.toNat_natCast, Int.toNat_natCast]
end Go.Proofs.Ytkomndcehdneaaa
