import Derived.Test.YtojgihheepdgdaaViCode
import Derived.Test.YtojgihheepdgdaaProg
namespace Go.Vi.Code
open Go.Proofs
theorem chk3 : okFunc Try.prog M 3 v3 = true := by kernel_rfl
theorem chk4 : okFunc Try.prog M 4 v4 = true := by kernel_rfl
theorem chk5 : okFunc Try.prog M 5 v5 = true := by kernel_rfl
theorem chk6 : okFunc Try.prog M 6 v6 = true := by kernel_rfl
theorem chk7 : okFunc Try.prog M 7 v7 = true := by kernel_rfl
theorem chk8 : okFunc Try.prog M 8 v8 = true := by kernel_rfl
theorem chk9 : okFunc Try.prog M 9 v9 = true := by kernel_rfl
theorem chk10 : okFunc Try.prog M 10 v10 = true := by kernel_rfl
theorem chk11 : okFunc Try.prog M 11 v11 = true := by kernel_rfl
theorem chk15 : okFunc Try.prog M 15 v15 = true := by kernel_rfl
theorem chk16 : okFunc Try.prog M 16 v16 = true := by kernel_rfl
theorem chk17 : okFunc Try.prog M 17 v17 = true := by kernel_rfl
theorem chk18 : okFunc Try.prog M 18 v18 = true := by kernel_rfl
theorem chk19 : okFunc Try.prog M 19 v19 = true := by kernel_rfl
theorem chk20 : okFunc Try.prog M 20 v20 = true := by kernel_rfl
theorem chk21 : okFunc Try.prog M 21 v21 = true := by kernel_rfl
theorem chk22 : okFunc Try.prog M 22 v22 = true := by kernel_rfl
theorem chk23 : okFunc Try.prog M 23 v23 = true := by kernel_rfl
theorem chk24 : okFunc Try.prog M 24 v24 = true := by kernel_rfl
theorem chk25 : okFunc Try.prog M 25 v25 = true := by kernel_rfl
theorem chk26 : okFunc Try.prog M 26 v26 = true := by kernel_rfl
theorem chk27 : okFunc Try.prog M 27 v27 = true := by kernel_rfl
theorem chk28 : okFunc Try.prog M 28 v28 = true := by kernel_rfl
theorem chk29 : okFunc Try.prog M 29 v29 = true := by kernel_rfl
theorem chk30 : okFunc Try.prog M 30 v30 = true := by kernel_rfl
theorem chk31 : okFunc Try.prog M 31 v31 = true := by kernel_rfl
theorem chk32 : okFunc Try.prog M 32 v32 = true := by kernel_rfl
theorem chk33 : okFunc Try.prog M 33 v33 = true := by kernel_rfl
theorem chk34 : okFunc Try.prog M 34 v34 = true := by kernel_rfl
theorem chk35 : okFunc Try.prog M 35 v35 = true := by kernel_rfl
theorem chk36 : okFunc Try.prog M 36 v36 = true := by kernel_rfl
theorem chk49 : okFunc Try.prog M 49 v49 = true := by kernel_rfl
theorem chk50 : okFunc Try.prog M 50 v50 = true := by kernel_rfl
theorem chk51 : okFunc Try.prog M 51 v51 = true := by kernel_rfl
theorem chk52 : okFunc Try.prog M 52 v52 = true := by kernel_rfl
theorem chk53 : okFunc Try.prog M 53 v53 = true := by kernel_rfl
theorem chk54 : okFunc Try.prog M 54 v54 = true := by kernel_rfl
theorem chk55 : okFunc Try.prog M 55 v55 = true := by kernel_rfl
theorem chk56 : okFunc Try.prog M 56 v56 = true := by kernel_rfl
theorem chk57 : okFunc Try.prog M 57 v57 = true := by kernel_rfl
theorem chk58 : okFunc Try.prog M 58 v58 = true := by kernel_rfl
theorem chk59 : okFunc Try.prog M 59 v59 = true := by kernel_rfl
theorem chk60 : okFunc Try.prog M 60 v60 = true := by kernel_rfl
theorem chk61 : okFunc Try.prog M 61 v61 = true := by kernel_rfl
theorem chk62 : okFunc Try.prog M 62 v62 = true := by kernel_rfl
theorem chk63 : okFunc Try.prog M 63 v63 = true := by kernel_rfl
theorem chk64 : okFunc Try.prog M 64 v64 = true := by kernel_rfl
theorem chk65 : okFunc Try.prog M 65 v65 = true := by kernel_rfl
theorem chk77 : okFunc Try.prog M 77 v77 = true := by kernel_rfl
theorem chk78 : okFunc Try.prog M 78 v78 = true := by kernel_rfl
theorem chk79 : okFunc Try.prog M 79 v79 = true := by kernel_rfl
theorem chk80 : okFunc Try.prog M 80 v80 = true := by kernel_rfl
theorem chk81 : okFunc Try.prog M 81 v81 = true := by kernel_rfl
theorem chk85 : okFunc Try.prog M 85 v85 = true := by kernel_rfl
theorem lookup_mem {α : Type} : ∀ {l : List (Nat × α)} {f : Nat} {x : α}, l.lookup f = some x → (f, x) ∈ l
  | [], f, x, h => by simp at h
  | (g, y) :: l, f, x, h => by
    simp only [List.lookup_cons] at h
    split at h
    · rename_i hb; injection h with h; have : f = g := by simpa using hb
      subst this; subst h; simp
    · exact List.mem_cons_of_mem _ (lookup_mem h)
theorem okTable : table.all (fun p => okFunc Try.prog M p.1 p.2) = true := by
  simp only [table, List.all_cons, List.all_nil, Bool.and_self, chk3, chk4, chk5, chk6, chk7, chk8, chk9, chk10, chk11, chk15, chk16, chk17, chk18, chk19, chk20, chk21, chk22, chk23, chk24, chk25, chk26, chk27, chk28, chk29, chk30, chk31, chk32, chk33, chk34, chk35, chk36, chk49, chk50, chk51, chk52, chk53, chk54, chk55, chk56, chk57, chk58, chk59, chk60, chk61, chk62, chk63, chk64, chk65, chk77, chk78, chk79, chk80, chk81, chk85]
theorem okAll : ∀ f F, C f = some F → okFunc Try.prog M f F = true := fun f F h => List.all_eq_true.1 okTable (f, F) (lookup_mem h)
end Go.Vi.Code
