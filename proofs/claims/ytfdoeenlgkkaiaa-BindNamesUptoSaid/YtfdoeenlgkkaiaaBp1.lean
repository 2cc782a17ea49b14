/- A part of the proof. -/
import Derived.Test.YtfdoeenlgkkaiaaBdC
import Derived.Test.YtfdoeenlgkkaiaaBt1
namespace Go.Abs
open Go.Proofs
set_option maxRecDepth 100000
structure Want where
 n : Int
 part : Int
 kind : Int
 any : Bool
 alike : Bool
def Want.av (w : Want) : AV:=.agg [.int .i64 w.n,.int .i64 w.part,.int .i64 w.kind,.bool w.any,.bool w.alike] 5
def wantE (op : Int) : Want × Bool :=
 if op = 4 then (⟨1,1,1,false,false⟩,true) else if op = 5 then (⟨1,3,3,false,false⟩,true) else if op = 6 ∨ op = 7 then (⟨1,0,3,true,false⟩,true)
 else if 8 ≤ op ∧ op ≤ 12 then (⟨2,1,1,false,false⟩,true) else if op = 13 then (⟨2,2,2,false,false⟩,true) else if op = 20 ∨ op = 21 then (⟨2,3,3,false,false⟩,true)
 else if 14 ≤ op ∧ op ≤ 19 then (⟨2,0,3,true,true⟩,true) else (⟨0,0,0,false,false⟩,false)
@[simp] theorem Want.pure (w : Want) : Pure w.av:=by simp [Want.av]
theorem wanted_pure (op : Int) : FnPure Try.prog 79 [.int .i64 op] (.tup [(wantE op).1.av,.bool (wantE op).2]):=by
 by_cases h : 4 ≤ op ∧ op ≤ 21
 ·
  obtain ⟨h1,h2⟩:=h
  have : op = 4 ∨ op = 5 ∨ op = 6 ∨ op = 7 ∨ op = 8 ∨ op = 9 ∨ op = 10 ∨ op = 11 ∨ op = 12 ∨ op = 13 ∨ op = 14 ∨ op = 15 ∨ op = 16 ∨ op = 17 ∨ op = 18 ∨ op = 19 ∨ op = 20 ∨ op = 21:=by omega
  rcases this with h | h | h | h | h | h | h | h | h | h | h | h | h | h | h | h | h | h <;> subst h <;> exact .lit (by simp) (by simp) (by kernel_rfl)
 ·
  have hw : wantE op = (⟨0,0,0,false,false⟩,false):=by unfold wantE; repeat (rw [if_neg (by omega)])
  rw [hw]
  refine pureV c79 (by simp) (by simp) (by simp [A79]) fun F hF => ?_
  have hk : ∀ k : Int,4 ≤ k ∧ k ≤ 21 → ¬ op = k:=fun k hk e => h (e ▸ hk)
  simp [A79,B79,R79_0,R79_1,R79_2,R79_3,R79_4,R79_5,R79_6,R79_7,R79_8,R79_9,R79_10,R79_11,R79_12,R79_13,R79_14,R79_15,R79_16,R79_17,R79_18,R79_19,R79_20,R79_21,R79_22,R79_23,R79_24,R79_25,R79_26,R79_27,hF,hk]
  exact .pure _ (by simp)
end Go.Abs
