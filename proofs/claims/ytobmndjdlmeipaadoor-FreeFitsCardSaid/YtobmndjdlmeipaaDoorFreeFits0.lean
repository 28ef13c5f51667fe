/- The law FreeFits: the walk of its own text, by the contracts of package free, span and cover. Any prefix, any list, any number. -/
import Derived.Test.YtobmndjdlmeipaaDoorFree3
import Derived.Test.YtobmndjdlmeipaaDoorWithin
import Derived.Test.YtobmndjdlmeipaaDoorSets
import Derived.Test.YtobmndjdlmeipaaDoorLaw
namespace Go.Proofs.YtobmndjdlmeipaaDoor
set_option linter.unusedVariables false
set_option linter.unusedSimpArgs false
open Go.RowKit

def FFmid (p : Pf) (A : Option Addr) (l : List Pf) (c : Nat) (n : Int) (w : World) (a' : Act) (w' : World) : Prop :=
  ∃ (U : Nat → Value) , a' = { tmps := #[.agg #[.int .i64 p.1, .int .i64 p.2], .slice A l.length c, .int .i64 n, .pointer (some ⟨w.heap.size, 0, none⟩), U 4, U 5, U 6, U 7, U 8, U 9, U 10, U 11, U 12, U 13, U 14, U 15, U 16, U 17, U 18, U 19, U 20, U 21, U 22, U 23, U 24, U 25, U 26, U 27, U 28, U 29, U 30, U 31, U 32, U 33, U 34, U 35, U 36, U 37, U 38, U 39, U 40, U 41, U 42, U 43, U 44, U 45, U 46, U 47, U 48, U 49, U 50, U 51, U 52, U 53, U 54, U 55, U 56, U 57, U 58, U 59, U 60, U 61, U 62, U 63, U 64, U 65, U 66, U 67, U 68, U 69, U 70, U 71, U 72, U 73, U 74, U 75, U 76, U 77, U 78, U 79, U 80, U 81, U 82, U 83, U 84, U 85, U 86, U 87, U 88, U 89, U 90, U 91, U 92, U 93, U 94, U 95, U 96, U 97, U 98, U 99, U 100, U 101, U 102, U 103, U 104, U 105, U 106, U 107, U 108, U 109, U 110, U 111, U 112, U 113, U 114, U 115, U 116, U 117, U 118, U 119, U 120, U 121, U 122, U 123, U 124, U 125, U 126, U 127, U 128, U 129, U 130, U 131, U 132, U 133, U 134, U 135, U 136, U 137, U 138, U 139, U 140, U 141, U 142, U 143, U 144, U 145, U 146, U 147, U 148, U 149, U 150, U 151, U 152, U 153, U 154, U 155, U 156, U 157, U 158, U 159, U 160, U 161, U 162, U 163, U 164, U 165, U 166, U 167, U 168, U 169, U 170, U 171, U 172, U 173, U 174, U 175, U 176, U 177, U 178, U 179, U 180, U 181, U 182, U 183, U 184, U 185, U 186, U 187, U 188, U 189, U 190, U 191, U 192, U 193, U 194, U 195, U 196, U 197, U 198, U 199, U 200, U 201, U 202, U 203, U 204, U 205, U 206, U 207, U 208, U 209, U 210, U 211, U 212, U 213, U 214, U 215, U 216, U 217, U 218, U 219, U 220, U 221, U 222, U 223, U 224, U 225, U 226, U 227, U 228, U 229, U 230, U 231, U 232, U 233, U 234, U 235, U 236, U 237], defers := [] } ∧ Below w.heap.size w w' ∧ w'.cell? ⟨w.heap.size, 0, none⟩ = some (.int .i64 p.1) ∧ w'.cell? ⟨w.heap.size, 1, none⟩ = some (.int .i64 p.2)
theorem FFmid.mk {p : Pf} {A : Option Addr} {l : List Pf} {c : Nat} {n : Int} {w : World} {T : Array Value} {w' : World}  (hT : T = #[.agg #[.int .i64 p.1, .int .i64 p.2], .slice A l.length c, .int .i64 n, .pointer (some ⟨w.heap.size, 0, none⟩), T.getD 4 undef, T.getD 5 undef, T.getD 6 undef, T.getD 7 undef, T.getD 8 undef, T.getD 9 undef, T.getD 10 undef, T.getD 11 undef, T.getD 12 undef, T.getD 13 undef, T.getD 14 undef, T.getD 15 undef, T.getD 16 undef, T.getD 17 undef, T.getD 18 undef, T.getD 19 undef, T.getD 20 undef, T.getD 21 undef, T.getD 22 undef, T.getD 23 undef, T.getD 24 undef, T.getD 25 undef, T.getD 26 undef, T.getD 27 undef, T.getD 28 undef, T.getD 29 undef, T.getD 30 undef, T.getD 31 undef, T.getD 32 undef, T.getD 33 undef, T.getD 34 undef, T.getD 35 undef, T.getD 36 undef, T.getD 37 undef, T.getD 38 undef, T.getD 39 undef, T.getD 40 undef, T.getD 41 undef, T.getD 42 undef, T.getD 43 undef, T.getD 44 undef, T.getD 45 undef, T.getD 46 undef, T.getD 47 undef, T.getD 48 undef, T.getD 49 undef, T.getD 50 undef, T.getD 51 undef, T.getD 52 undef, T.getD 53 undef, T.getD 54 undef, T.getD 55 undef, T.getD 56 undef, T.getD 57 undef, T.getD 58 undef, T.getD 59 undef, T.getD 60 undef, T.getD 61 undef, T.getD 62 undef, T.getD 63 undef, T.getD 64 undef, T.getD 65 undef, T.getD 66 undef, T.getD 67 undef, T.getD 68 undef, T.getD 69 undef, T.getD 70 undef, T.getD 71 undef, T.getD 72 undef, T.getD 73 undef, T.getD 74 undef, T.getD 75 undef, T.getD 76 undef, T.getD 77 undef, T.getD 78 undef, T.getD 79 undef, T.getD 80 undef, T.getD 81 undef, T.getD 82 undef, T.getD 83 undef, T.getD 84 undef, T.getD 85 undef, T.getD 86 undef, T.getD 87 undef, T.getD 88 undef, T.getD 89 undef, T.getD 90 undef, T.getD 91 undef, T.getD 92 undef, T.getD 93 undef, T.getD 94 undef, T.getD 95 undef, T.getD 96 undef, T.getD 97 undef, T.getD 98 undef, T.getD 99 undef, T.getD 100 undef, T.getD 101 undef, T.getD 102 undef, T.getD 103 undef, T.getD 104 undef, T.getD 105 undef, T.getD 106 undef, T.getD 107 undef, T.getD 108 undef, T.getD 109 undef, T.getD 110 undef, T.getD 111 undef, T.getD 112 undef, T.getD 113 undef, T.getD 114 undef, T.getD 115 undef, T.getD 116 undef, T.getD 117 undef, T.getD 118 undef, T.getD 119 undef, T.getD 120 undef, T.getD 121 undef, T.getD 122 undef, T.getD 123 undef, T.getD 124 undef, T.getD 125 undef, T.getD 126 undef, T.getD 127 undef, T.getD 128 undef, T.getD 129 undef, T.getD 130 undef, T.getD 131 undef, T.getD 132 undef, T.getD 133 undef, T.getD 134 undef, T.getD 135 undef, T.getD 136 undef, T.getD 137 undef, T.getD 138 undef, T.getD 139 undef, T.getD 140 undef, T.getD 141 undef, T.getD 142 undef, T.getD 143 undef, T.getD 144 undef, T.getD 145 undef, T.getD 146 undef, T.getD 147 undef, T.getD 148 undef, T.getD 149 undef, T.getD 150 undef, T.getD 151 undef, T.getD 152 undef, T.getD 153 undef, T.getD 154 undef, T.getD 155 undef, T.getD 156 undef, T.getD 157 undef, T.getD 158 undef, T.getD 159 undef, T.getD 160 undef, T.getD 161 undef, T.getD 162 undef, T.getD 163 undef, T.getD 164 undef, T.getD 165 undef, T.getD 166 undef, T.getD 167 undef, T.getD 168 undef, T.getD 169 undef, T.getD 170 undef, T.getD 171 undef, T.getD 172 undef, T.getD 173 undef, T.getD 174 undef, T.getD 175 undef, T.getD 176 undef, T.getD 177 undef, T.getD 178 undef, T.getD 179 undef, T.getD 180 undef, T.getD 181 undef, T.getD 182 undef, T.getD 183 undef, T.getD 184 undef, T.getD 185 undef, T.getD 186 undef, T.getD 187 undef, T.getD 188 undef, T.getD 189 undef, T.getD 190 undef, T.getD 191 undef, T.getD 192 undef, T.getD 193 undef, T.getD 194 undef, T.getD 195 undef, T.getD 196 undef, T.getD 197 undef, T.getD 198 undef, T.getD 199 undef, T.getD 200 undef, T.getD 201 undef, T.getD 202 undef, T.getD 203 undef, T.getD 204 undef, T.getD 205 undef, T.getD 206 undef, T.getD 207 undef, T.getD 208 undef, T.getD 209 undef, T.getD 210 undef, T.getD 211 undef, T.getD 212 undef, T.getD 213 undef, T.getD 214 undef, T.getD 215 undef, T.getD 216 undef, T.getD 217 undef, T.getD 218 undef, T.getD 219 undef, T.getD 220 undef, T.getD 221 undef, T.getD 222 undef, T.getD 223 undef, T.getD 224 undef, T.getD 225 undef, T.getD 226 undef, T.getD 227 undef, T.getD 228 undef, T.getD 229 undef, T.getD 230 undef, T.getD 231 undef, T.getD 232 undef, T.getD 233 undef, T.getD 234 undef, T.getD 235 undef, T.getD 236 undef, T.getD 237 undef]) (h : Below w.heap.size w w' ∧ w'.cell? ⟨w.heap.size, 0, none⟩ = some (.int .i64 p.1) ∧ w'.cell? ⟨w.heap.size, 1, none⟩ = some (.int .i64 p.2)) : FFmid p A l c n w { tmps := T, defers := [] } w' :=
  ⟨fun i => T.getD i undef,  congrArg (fun t => ({ tmps := t, defers := [] } : Act)) hT, h⟩
def FFmid2 (p : Pf) (A : Option Addr) (l : List Pf) (c : Nat) (n : Int) (w : World) (a' : Act) (w' : World) : Prop :=
  ∃ (U : Nat → Value) , a' = { tmps := #[.agg #[.int .i64 p.1, .int .i64 p.2], .slice A l.length c, .int .i64 n, .pointer (some ⟨w.heap.size, 0, none⟩), U 4, U 5, U 6, U 7, U 8, .int .i64 (manyL (greatL p l n) n), U 10, U 11, U 12, U 13, U 14, U 15, U 16, U 17, U 18, U 19, U 20, U 21, U 22, U 23, U 24, U 25, U 26, U 27, U 28, U 29, U 30, U 31, U 32, U 33, U 34, U 35, U 36, U 37, U 38, U 39, U 40, U 41, U 42, U 43, U 44, U 45, U 46, U 47, U 48, U 49, U 50, U 51, U 52, U 53, U 54, U 55, U 56, U 57, U 58, U 59, U 60, U 61, U 62, U 63, U 64, U 65, U 66, U 67, U 68, U 69, U 70, U 71, U 72, U 73, U 74, U 75, U 76, U 77, U 78, U 79, U 80, U 81, U 82, U 83, U 84, U 85, U 86, U 87, U 88, U 89, U 90, U 91, U 92, U 93, U 94, U 95, U 96, U 97, U 98, U 99, U 100, U 101, U 102, U 103, U 104, U 105, U 106, U 107, U 108, U 109, U 110, U 111, U 112, U 113, U 114, U 115, U 116, U 117, U 118, U 119, U 120, U 121, U 122, U 123, U 124, U 125, U 126, U 127, U 128, U 129, U 130, U 131, U 132, U 133, U 134, U 135, U 136, U 137, U 138, U 139, U 140, U 141, U 142, U 143, U 144, U 145, U 146, U 147, U 148, U 149, U 150, U 151, U 152, U 153, U 154, U 155, U 156, U 157, U 158, U 159, U 160, U 161, U 162, U 163, U 164, U 165, U 166, U 167, U 168, U 169, U 170, U 171, U 172, U 173, U 174, U 175, U 176, U 177, U 178, U 179, U 180, U 181, U 182, U 183, U 184, U 185, U 186, U 187, U 188, U 189, U 190, U 191, U 192, U 193, U 194, U 195, U 196, U 197, U 198, U 199, U 200, U 201, U 202, U 203, U 204, U 205, U 206, U 207, U 208, U 209, U 210, U 211, U 212, U 213, U 214, U 215, U 216, U 217, U 218, U 219, U 220, U 221, U 222, U 223, U 224, U 225, U 226, U 227, U 228, U 229, U 230, U 231, U 232, U 233, U 234, U 235, U 236, U 237], defers := [] } ∧ Below w.heap.size w w' ∧ w'.cell? ⟨w.heap.size, 0, none⟩ = some (.int .i64 p.1) ∧ w'.cell? ⟨w.heap.size, 1, none⟩ = some (.int .i64 p.2)
theorem FFmid2.mk {p : Pf} {A : Option Addr} {l : List Pf} {c : Nat} {n : Int} {w : World} {T : Array Value} {w' : World}  (hT : T = #[.agg #[.int .i64 p.1, .int .i64 p.2], .slice A l.length c, .int .i64 n, .pointer (some ⟨w.heap.size, 0, none⟩), T.getD 4 undef, T.getD 5 undef, T.getD 6 undef, T.getD 7 undef, T.getD 8 undef, .int .i64 (manyL (greatL p l n) n), T.getD 10 undef, T.getD 11 undef, T.getD 12 undef, T.getD 13 undef, T.getD 14 undef, T.getD 15 undef, T.getD 16 undef, T.getD 17 undef, T.getD 18 undef, T.getD 19 undef, T.getD 20 undef, T.getD 21 undef, T.getD 22 undef, T.getD 23 undef, T.getD 24 undef, T.getD 25 undef, T.getD 26 undef, T.getD 27 undef, T.getD 28 undef, T.getD 29 undef, T.getD 30 undef, T.getD 31 undef, T.getD 32 undef, T.getD 33 undef, T.getD 34 undef, T.getD 35 undef, T.getD 36 undef, T.getD 37 undef, T.getD 38 undef, T.getD 39 undef, T.getD 40 undef, T.getD 41 undef, T.getD 42 undef, T.getD 43 undef, T.getD 44 undef, T.getD 45 undef, T.getD 46 undef, T.getD 47 undef, T.getD 48 undef, T.getD 49 undef, T.getD 50 undef, T.getD 51 undef, T.getD 52 undef, T.getD 53 undef, T.getD 54 undef, T.getD 55 undef, T.getD 56 undef, T.getD 57 undef, T.getD 58 undef, T.getD 59 undef, T.getD 60 undef, T.getD 61 undef, T.getD 62 undef, T.getD 63 undef, T.getD 64 undef, T.getD 65 undef, T.getD 66 undef, T.getD 67 undef, T.getD 68 undef, T.getD 69 undef, T.getD 70 undef, T.getD 71 undef, T.getD 72 undef, T.getD 73 undef, T.getD 74 undef, T.getD 75 undef, T.getD 76 undef, T.getD 77 undef, T.getD 78 undef, T.getD 79 undef, T.getD 80 undef, T.getD 81 undef, T.getD 82 undef, T.getD 83 undef, T.getD 84 undef, T.getD 85 undef, T.getD 86 undef, T.getD 87 undef, T.getD 88 undef, T.getD 89 undef, T.getD 90 undef, T.getD 91 undef, T.getD 92 undef, T.getD 93 undef, T.getD 94 undef, T.getD 95 undef, T.getD 96 undef, T.getD 97 undef, T.getD 98 undef, T.getD 99 undef, T.getD 100 undef, T.getD 101 undef, T.getD 102 undef, T.getD 103 undef, T.getD 104 undef, T.getD 105 undef, T.getD 106 undef, T.getD 107 undef, T.getD 108 undef, T.getD 109 undef, T.getD 110 undef, T.getD 111 undef, T.getD 112 undef, T.getD 113 undef, T.getD 114 undef, T.getD 115 undef, T.getD 116 undef, T.getD 117 undef, T.getD 118 undef, T.getD 119 undef, T.getD 120 undef, T.getD 121 undef, T.getD 122 undef, T.getD 123 undef, T.getD 124 undef, T.getD 125 undef, T.getD 126 undef, T.getD 127 undef, T.getD 128 undef, T.getD 129 undef, T.getD 130 undef, T.getD 131 undef, T.getD 132 undef, T.getD 133 undef, T.getD 134 undef, T.getD 135 undef, T.getD 136 undef, T.getD 137 undef, T.getD 138 undef, T.getD 139 undef, T.getD 140 undef, T.getD 141 undef, T.getD 142 undef, T.getD 143 undef, T.getD 144 undef, T.getD 145 undef, T.getD 146 undef, T.getD 147 undef, T.getD 148 undef, T.getD 149 undef, T.getD 150 undef, T.getD 151 undef, T.getD 152 undef, T.getD 153 undef, T.getD 154 undef, T.getD 155 undef, T.getD 156 undef, T.getD 157 undef, T.getD 158 undef, T.getD 159 undef, T.getD 160 undef, T.getD 161 undef, T.getD 162 undef, T.getD 163 undef, T.getD 164 undef, T.getD 165 undef, T.getD 166 undef, T.getD 167 undef, T.getD 168 undef, T.getD 169 undef, T.getD 170 undef, T.getD 171 undef, T.getD 172 undef, T.getD 173 undef, T.getD 174 undef, T.getD 175 undef, T.getD 176 undef, T.getD 177 undef, T.getD 178 undef, T.getD 179 undef, T.getD 180 undef, T.getD 181 undef, T.getD 182 undef, T.getD 183 undef, T.getD 184 undef, T.getD 185 undef, T.getD 186 undef, T.getD 187 undef, T.getD 188 undef, T.getD 189 undef, T.getD 190 undef, T.getD 191 undef, T.getD 192 undef, T.getD 193 undef, T.getD 194 undef, T.getD 195 undef, T.getD 196 undef, T.getD 197 undef, T.getD 198 undef, T.getD 199 undef, T.getD 200 undef, T.getD 201 undef, T.getD 202 undef, T.getD 203 undef, T.getD 204 undef, T.getD 205 undef, T.getD 206 undef, T.getD 207 undef, T.getD 208 undef, T.getD 209 undef, T.getD 210 undef, T.getD 211 undef, T.getD 212 undef, T.getD 213 undef, T.getD 214 undef, T.getD 215 undef, T.getD 216 undef, T.getD 217 undef, T.getD 218 undef, T.getD 219 undef, T.getD 220 undef, T.getD 221 undef, T.getD 222 undef, T.getD 223 undef, T.getD 224 undef, T.getD 225 undef, T.getD 226 undef, T.getD 227 undef, T.getD 228 undef, T.getD 229 undef, T.getD 230 undef, T.getD 231 undef, T.getD 232 undef, T.getD 233 undef, T.getD 234 undef, T.getD 235 undef, T.getD 236 undef, T.getD 237 undef]) (h : Below w.heap.size w w' ∧ w'.cell? ⟨w.heap.size, 0, none⟩ = some (.int .i64 p.1) ∧ w'.cell? ⟨w.heap.size, 1, none⟩ = some (.int .i64 p.2)) : FFmid2 p A l c n w { tmps := T, defers := [] } w' :=
  ⟨fun i => T.getD i undef,  congrArg (fun t => ({ tmps := t, defers := [] } : Act)) hT, h⟩
def FFmid3 (p : Pf) (A : Option Addr) (l : List Pf) (c : Nat) (n : Int) (w : World) (a : Int) (a' : Act) (w' : World) : Prop :=
  ∃ (U : Nat → Value) (gq gb : Nat), a' = { tmps := #[.agg #[.int .i64 p.1, .int .i64 p.2], .slice A l.length c, .int .i64 n, .pointer (some ⟨w.heap.size, 0, none⟩), U 4, U 5, U 6, U 7, U 8, .int .i64 (manyL (greatL p l n) n), U 10, .pointer (some ⟨gq, 0, none⟩), U 12, U 13, .pointer (some ⟨gb, 0, none⟩), faultV (bestFault p l n), U 16, U 17, U 18, U 19, U 20, U 21, U 22, U 23, U 24, U 25, U 26, U 27, U 28, U 29, U 30, U 31, U 32, U 33, U 34, U 35, U 36, U 37, U 38, U 39, U 40, U 41, U 42, U 43, U 44, U 45, U 46, U 47, U 48, U 49, U 50, U 51, U 52, U 53, U 54, U 55, U 56, U 57, U 58, U 59, U 60, U 61, U 62, U 63, U 64, U 65, U 66, U 67, U 68, U 69, U 70, U 71, U 72, U 73, U 74, U 75, U 76, U 77, U 78, U 79, U 80, U 81, U 82, U 83, U 84, U 85, U 86, U 87, U 88, U 89, U 90, U 91, U 92, U 93, U 94, U 95, U 96, U 97, U 98, U 99, U 100, U 101, U 102, U 103, U 104, U 105, U 106, U 107, U 108, U 109, U 110, U 111, U 112, U 113, U 114, U 115, U 116, U 117, U 118, U 119, U 120, U 121, U 122, U 123, U 124, U 125, U 126, U 127, U 128, U 129, U 130, U 131, U 132, U 133, U 134, U 135, U 136, U 137, U 138, U 139, U 140, U 141, U 142, U 143, U 144, U 145, U 146, U 147, U 148, U 149, U 150, U 151, U 152, U 153, U 154, U 155, U 156, U 157, U 158, U 159, U 160, U 161, U 162, U 163, U 164, U 165, U 166, U 167, U 168, U 169, U 170, U 171, U 172, U 173, U 174, U 175, U 176, U 177, U 178, U 179, U 180, U 181, U 182, U 183, U 184, U 185, U 186, U 187, U 188, U 189, U 190, U 191, U 192, U 193, U 194, U 195, U 196, U 197, U 198, U 199, U 200, U 201, U 202, U 203, U 204, U 205, U 206, U 207, U 208, U 209, U 210, U 211, U 212, U 213, U 214, U 215, U 216, U 217, U 218, U 219, U 220, U 221, U 222, U 223, U 224, U 225, U 226, U 227, U 228, U 229, U 230, U 231, U 232, U 233, U 234, U 235, U 236, U 237], defers := [] } ∧ Below w.heap.size w w' ∧ w'.cell? ⟨w.heap.size, 0, none⟩ = some (.int .i64 p.1) ∧ w'.cell? ⟨w.heap.size, 1, none⟩ = some (.int .i64 p.2) ∧ w.heap.size < gq ∧ gq < gb ∧ Blk w' gq 23 #[.int .i64 a, .int .i64 n] ∧ Blk w' gb 23 #[.int .i64 (bestV p l n).1, .int .i64 (bestV p l n).2]
theorem FFmid3.mk {p : Pf} {A : Option Addr} {l : List Pf} {c : Nat} {n : Int} {w : World} {a : Int} {T : Array Value} {w' : World} (gq gb : Nat) (hT : T = #[.agg #[.int .i64 p.1, .int .i64 p.2], .slice A l.length c, .int .i64 n, .pointer (some ⟨w.heap.size, 0, none⟩), T.getD 4 undef, T.getD 5 undef, T.getD 6 undef, T.getD 7 undef, T.getD 8 undef, .int .i64 (manyL (greatL p l n) n), T.getD 10 undef, .pointer (some ⟨gq, 0, none⟩), T.getD 12 undef, T.getD 13 undef, .pointer (some ⟨gb, 0, none⟩), faultV (bestFault p l n), T.getD 16 undef, T.getD 17 undef, T.getD 18 undef, T.getD 19 undef, T.getD 20 undef, T.getD 21 undef, T.getD 22 undef, T.getD 23 undef, T.getD 24 undef, T.getD 25 undef, T.getD 26 undef, T.getD 27 undef, T.getD 28 undef, T.getD 29 undef, T.getD 30 undef, T.getD 31 undef, T.getD 32 undef, T.getD 33 undef, T.getD 34 undef, T.getD 35 undef, T.getD 36 undef, T.getD 37 undef, T.getD 38 undef, T.getD 39 undef, T.getD 40 undef, T.getD 41 undef, T.getD 42 undef, T.getD 43 undef, T.getD 44 undef, T.getD 45 undef, T.getD 46 undef, T.getD 47 undef, T.getD 48 undef, T.getD 49 undef, T.getD 50 undef, T.getD 51 undef, T.getD 52 undef, T.getD 53 undef, T.getD 54 undef, T.getD 55 undef, T.getD 56 undef, T.getD 57 undef, T.getD 58 undef, T.getD 59 undef, T.getD 60 undef, T.getD 61 undef, T.getD 62 undef, T.getD 63 undef, T.getD 64 undef, T.getD 65 undef, T.getD 66 undef, T.getD 67 undef, T.getD 68 undef, T.getD 69 undef, T.getD 70 undef, T.getD 71 undef, T.getD 72 undef, T.getD 73 undef, T.getD 74 undef, T.getD 75 undef, T.getD 76 undef, T.getD 77 undef, T.getD 78 undef, T.getD 79 undef, T.getD 80 undef, T.getD 81 undef, T.getD 82 undef, T.getD 83 undef, T.getD 84 undef, T.getD 85 undef, T.getD 86 undef, T.getD 87 undef, T.getD 88 undef, T.getD 89 undef, T.getD 90 undef, T.getD 91 undef, T.getD 92 undef, T.getD 93 undef, T.getD 94 undef, T.getD 95 undef, T.getD 96 undef, T.getD 97 undef, T.getD 98 undef, T.getD 99 undef, T.getD 100 undef, T.getD 101 undef, T.getD 102 undef, T.getD 103 undef, T.getD 104 undef, T.getD 105 undef, T.getD 106 undef, T.getD 107 undef, T.getD 108 undef, T.getD 109 undef, T.getD 110 undef, T.getD 111 undef, T.getD 112 undef, T.getD 113 undef, T.getD 114 undef, T.getD 115 undef, T.getD 116 undef, T.getD 117 undef, T.getD 118 undef, T.getD 119 undef, T.getD 120 undef, T.getD 121 undef, T.getD 122 undef, T.getD 123 undef, T.getD 124 undef, T.getD 125 undef, T.getD 126 undef, T.getD 127 undef, T.getD 128 undef, T.getD 129 undef, T.getD 130 undef, T.getD 131 undef, T.getD 132 undef, T.getD 133 undef, T.getD 134 undef, T.getD 135 undef, T.getD 136 undef, T.getD 137 undef, T.getD 138 undef, T.getD 139 undef, T.getD 140 undef, T.getD 141 undef, T.getD 142 undef, T.getD 143 undef, T.getD 144 undef, T.getD 145 undef, T.getD 146 undef, T.getD 147 undef, T.getD 148 undef, T.getD 149 undef, T.getD 150 undef, T.getD 151 undef, T.getD 152 undef, T.getD 153 undef, T.getD 154 undef, T.getD 155 undef, T.getD 156 undef, T.getD 157 undef, T.getD 158 undef, T.getD 159 undef, T.getD 160 undef, T.getD 161 undef, T.getD 162 undef, T.getD 163 undef, T.getD 164 undef, T.getD 165 undef, T.getD 166 undef, T.getD 167 undef, T.getD 168 undef, T.getD 169 undef, T.getD 170 undef, T.getD 171 undef, T.getD 172 undef, T.getD 173 undef, T.getD 174 undef, T.getD 175 undef, T.getD 176 undef, T.getD 177 undef, T.getD 178 undef, T.getD 179 undef, T.getD 180 undef, T.getD 181 undef, T.getD 182 undef, T.getD 183 undef, T.getD 184 undef, T.getD 185 undef, T.getD 186 undef, T.getD 187 undef, T.getD 188 undef, T.getD 189 undef, T.getD 190 undef, T.getD 191 undef, T.getD 192 undef, T.getD 193 undef, T.getD 194 undef, T.getD 195 undef, T.getD 196 undef, T.getD 197 undef, T.getD 198 undef, T.getD 199 undef, T.getD 200 undef, T.getD 201 undef, T.getD 202 undef, T.getD 203 undef, T.getD 204 undef, T.getD 205 undef, T.getD 206 undef, T.getD 207 undef, T.getD 208 undef, T.getD 209 undef, T.getD 210 undef, T.getD 211 undef, T.getD 212 undef, T.getD 213 undef, T.getD 214 undef, T.getD 215 undef, T.getD 216 undef, T.getD 217 undef, T.getD 218 undef, T.getD 219 undef, T.getD 220 undef, T.getD 221 undef, T.getD 222 undef, T.getD 223 undef, T.getD 224 undef, T.getD 225 undef, T.getD 226 undef, T.getD 227 undef, T.getD 228 undef, T.getD 229 undef, T.getD 230 undef, T.getD 231 undef, T.getD 232 undef, T.getD 233 undef, T.getD 234 undef, T.getD 235 undef, T.getD 236 undef, T.getD 237 undef]) (h : Below w.heap.size w w' ∧ w'.cell? ⟨w.heap.size, 0, none⟩ = some (.int .i64 p.1) ∧ w'.cell? ⟨w.heap.size, 1, none⟩ = some (.int .i64 p.2) ∧ w.heap.size < gq ∧ gq < gb ∧ Blk w' gq 23 #[.int .i64 a, .int .i64 n] ∧ Blk w' gb 23 #[.int .i64 (bestV p l n).1, .int .i64 (bestV p l n).2]) : FFmid3 p A l c n w a { tmps := T, defers := [] } w' :=
  ⟨fun i => T.getD i undef, gq, gb,  congrArg (fun t => ({ tmps := t, defers := [] } : Act)) hT, h⟩

theorem great3 : greatFault (0, 30) [(0, 32)] 31 = 0 ∧ greatL (0, 30) [(0, 32)] 31 = [(2, 31)] := by
  refine ⟨greatFault_zero.2 ⟨freeFault_zero.2 ⟨by decide, by decide, by decide⟩, by decide, by decide⟩, ?_⟩
  unfold greatL
  rw [blocks3]
  decide
theorem first3_ok (A : Option Addr) (c : Nat) (w : World) (ht : TabVar w) (hl : Rd w w.heap.size A (cellsP [((0 : Int), (32 : Int))])) :
    Calls Tryd.prog 7 #[.agg #[.int .i64 0, .int .i64 30], .slice A 1 c, .int .i64 31] w fun e w' => e = .returned (.tuple #[.agg #[.int .i64 2, .int .i64 31], .nilIface]) ∧ Below w.heap.size w w' :=
  first_ok (0, 30) A [(0, 32)] c 31 (2, 31) [] (by decide) great3.1 great3.2 w ht hl
theorem setRes_ok {w w' : World} {e : Ending} {f : Int} {R : List Sp} (h : SetRes w f R e w') (hf : f = 0) : OwnRes2 44 w R e w' := by
  obtain ⟨hb, h1, _⟩ := h
  obtain ⟨v, q1, q2⟩ := h1 hf
  exact ⟨v, q1, q2, hb⟩
theorem meet_ok (A B : Option Addr) (a b : List Sp) (c d : Nat) (ha : a.length ≤ maxLen) (hb : b.length ≤ maxLen) (hf : opFault a b (common a b) = 0) (w : World) (hl : Rd w w.heap.size A (cellsP a)) (hr : Rd w w.heap.size B (cellsP b)) :
    Calls Tryd.prog 14 #[.slice A a.length c, .slice B b.length d] w (OwnRes2 44 w (common a b)) := (meet_all A B a b c d ha hb w hl hr).mono fun e w' h => setRes_ok h hf
theorem union_ok (A B : Option Addr) (a b : List Sp) (c d : Nat) (ha : a.length ≤ maxLen) (hb : b.length ≤ maxLen) (hf : opFault a b (norm (a ++ b)) = 0) (w : World) (hl : Rd w w.heap.size A (cellsP a)) (hr : Rd w w.heap.size B (cellsP b)) :
    Calls Tryd.prog 15 #[.slice A a.length c, .slice B b.length d] w (OwnRes2 44 w (norm (a ++ b))) := (union_all A B a b c d ha hb w hl hr).mono fun e w' h => setRes_ok h hf
/-- What best is, where it is. -/
theorem best_at {p : Pf} {l : List Pf} {n : Int} (hf : greatFault p l n = 0) {b : Pf} {r : List Pf} (hg : greatL p l n = b :: r) (hb : bestFault p l n = 0) : (bestV p l n).2 = n ∧ (bestV p l n).1 ∈ nb (greatL p l n) n ∧ b.1 ≤ (bestV p l n).1 := by
  obtain ⟨x, hx⟩ := bestGo_some r b
  have hx' : bestGo none (greatL p l n) = some x := by rw [hg]; exact hx
  have hm : x ∈ greatL p l n := by
    rcases bestGo_mem _ _ _ hx' with h | h
    · exact h
    · cases h
  have hv : bestV p l n = (x.1, n) := by unfold bestV; rw [hb, if_neg (by simp), hx']
  rw [hv]
  exact ⟨rfl, great_at (b := x) hf hm, great_first (c := x) (greatFault_zero.1 hf).1 hg hm⟩
theorem Blk.store2 {w : World} {g : Nat} {t : TypeId} {u v x y : Value} (h : Blk w g t #[u, v]) : Blk ((w.setCell ⟨g, 0, none⟩ x).setCell ⟨g, 1, none⟩ y) g t #[x, y] := (h.setCell 0 x).setCell 1 y
set_option maxRecDepth 100000 in
set_option maxHeartbeats 8000000 in
theorem freeFits_1 (p : Pf) (A : Option Addr) (l : List Pf) (c : Nat) (n : Int) (hm : l.length ≤ maxLen) (w : World) (ht : TabVar w) (hg : ErrVar w) (hl : Rd w w.heap.size A (cellsP l)) (R : Ending → World → Prop)
    (h : ∀ a' w', FFmid p A l c n w a' w' → (tailN 3 (Tryd.f3.body.getD .skip)).wp Tryd.prog (bodyPost Tryd.prog Tryd.f3 R) a' w') :
    Calls Tryd.prog 3 #[.agg #[.int .i64 p.1, .int .i64 p.2], .slice A l.length c, .int .i64 n] w R := by
  have HT := Lib.hid ht
  have HEV := Lib.hid hg
  clear ht hg
  go_enter Tryd.func3, Tryd.ntmps3
  refine wp_cut 3 (FFmid p A l c n w) (by rfl) ?_ h
  clear h
  intro r HR
  dsimp only [putN]
  go_wp2_with fail
  have hone := rd_new (w.alloc (.cells #[.int .i64 p.1, .int .i64 p.2] 23)) [(0, 32)] #[.int .i64 0, .int .i64 32] 23 (w.heap.size + 1) (by simp) rfl
  refine (first3_ok _ 1 _ (HT.out.belowB (show Below w.heap.size w _ from (by first | exact Below.refl _ _ | ((repeat' (first | exact Below.refl _ _ | refine Below.setCell ?_ ?_ _ | refine Below.alloc ?_ ?_ _ | refine Below.drew ?_)) <;> (first | omega | (simp <;> omega))))) HT.out.lt) hone).mono ?_
  rintro e w1 ⟨rfl, hb1⟩
  have hB1 : Below w.heap.size w w1 := Below.trans (by first | exact Below.refl _ _ | ((repeat' (first | exact Below.refl _ _ | refine Below.setCell ?_ ?_ _ | refine Below.alloc ?_ ?_ _ | refine Below.drew ?_)) <;> (first | omega | (simp <;> omega)))) (hb1.mono (by first | omega | (simp <;> omega)))
  have hs1 : w.heap.size ≤ w1.heap.size := hB1.size
  have ht1 := hb1.size
  try simp only [World.size_alloc, World.size_setCell] at ht1
  have c1_0 : w1.cell? ⟨w.heap.size, 0, none⟩ = some (.int .i64 p.1) := (hb1.cell (p := ⟨w.heap.size, 0, none⟩) (by first | omega | (simp <;> omega))).trans (by first | (simp; done) | simp [go_sem])
  have c1_1 : w1.cell? ⟨w.heap.size, 1, none⟩ = some (.int .i64 p.2) := (hb1.cell (p := ⟨w.heap.size, 1, none⟩) (by first | omega | (simp <;> omega))).trans (by first | (simp; done) | simp [go_sem])
  have c1_2 : w1.cell? ⟨w.heap.size + 1, 0, none⟩ = some (.int .i64 0) := (hb1.cell (p := ⟨w.heap.size + 1, 0, none⟩) (by first | omega | (simp <;> omega))).trans (by first | (simp; done) | simp [go_sem])
  have c1_3 : w1.cell? ⟨w.heap.size + 1, 1, none⟩ = some (.int .i64 32) := (hb1.cell (p := ⟨w.heap.size + 1, 1, none⟩) (by first | omega | (simp <;> omega))).trans (by first | (simp; done) | simp [go_sem])
  have l1_0a : w.heap.size < w1.heap.size := World.block_lt_of_cell? w1 _ c1_0
  have l1_0b : w.heap.size < w1.heap.size + 1 := Nat.lt_succ_of_lt l1_0a
  have l1_0c : w.heap.size < w1.heap.size + 1 + 1 := Nat.lt_succ_of_lt l1_0b
  have l1_0d : w.heap.size < w1.heap.size + 1 + 1 + 1 := Nat.lt_succ_of_lt l1_0c
  have l1_1a : w.heap.size + 1 < w1.heap.size := World.block_lt_of_cell? w1 _ c1_2
  have l1_1b : w.heap.size + 1 < w1.heap.size + 1 := Nat.lt_succ_of_lt l1_1a
  have l1_1c : w.heap.size + 1 < w1.heap.size + 1 + 1 := Nat.lt_succ_of_lt l1_1b
  have l1_1d : w.heap.size + 1 < w1.heap.size + 1 + 1 + 1 := Nat.lt_succ_of_lt l1_1c
  clear hb1
  clear hone
  clear c1_2 c1_3
  go_wp2_with fail
  refine wp_name ?_
  intro w2 hW2
  have hB2 : Below w.heap.size w w2 := by rw [hW2.out]; exact (by first | exact hB1 | ((repeat' (first | exact hB1 | refine Below.setCell ?_ ?_ _ | refine Below.alloc ?_ ?_ _ | refine Below.drew ?_)) <;> (first | omega | (simp <;> omega))))
  have hs2 : w.heap.size ≤ w2.heap.size := hB2.size
  have ht2 := congrArg (fun x : World => x.heap.size) hW2.out
  try simp only [World.size_alloc, World.size_setCell] at ht2
  have c2_0 : w2.cell? ⟨w.heap.size, 0, none⟩ = some (.int .i64 p.1) := by rw [hW2.out]; first | exact c1_0 | simp [go_sem, c1_0, l1_0a, l1_0b, l1_0c, l1_0d, l1_1a, l1_1b, l1_1c, l1_1d]
  have c2_1 : w2.cell? ⟨w.heap.size, 1, none⟩ = some (.int .i64 p.2) := by rw [hW2.out]; first | exact c1_1 | simp [go_sem, c1_1, l1_0a, l1_0b, l1_0c, l1_0d, l1_1a, l1_1b, l1_1c, l1_1d]
  have l2_0a : w.heap.size < w2.heap.size := World.block_lt_of_cell? w2 _ c2_0
  have l2_0b : w.heap.size < w2.heap.size + 1 := Nat.lt_succ_of_lt l2_0a
  have l2_0c : w.heap.size < w2.heap.size + 1 + 1 := Nat.lt_succ_of_lt l2_0b
  have l2_0d : w.heap.size < w2.heap.size + 1 + 1 + 1 := Nat.lt_succ_of_lt l2_0c
  have hu2 := Nat.le_of_eq ht2
  have hv2 := Nat.le_of_eq ht2.symm
  clear ht2 c1_0 c1_1 l1_0a l1_0b l1_0c l1_0d l1_1a l1_1b l1_1c l1_1d hB1 hW2
  exact HR.out _ _ (FFmid.mk (by kernel_rfl) ⟨hB2, c2_0, c2_1⟩)
set_option maxRecDepth 100000 in
set_option maxHeartbeats 8000000 in
theorem freeFits_2a (p : Pf) (A : Option Addr) (l : List Pf) (c : Nat) (n : Int) (hm : l.length ≤ maxLen) (w : World) (ht : TabVar w) (hg : ErrVar w) (hl : Rd w w.heap.size A (cellsP l)) (hp : greatFault p l n ≠ 0) (s0 : Act) (w0 : World) (h0 : FFmid p A l c n w s0 w0) :
    (tailN 3 (Tryd.f3.body.getD .skip)).wp Tryd.prog (bodyPost Tryd.prog Tryd.f3 fun e w' => e = .returned (.bool true) ∧ Below w.heap.size w w') s0 w0 := by
  have HT := Lib.hid ht
  have HEV := Lib.hid hg
  clear ht hg
  have HP := Lib.hid hp
  clear hp
  obtain ⟨U, rfl, hB0, c0_0, c0_1⟩ := h0
  dsimp only [Tryd.f3, Option.getD, tailN, putN]
  have hs0 := hB0.size
  have l0_0a : w.heap.size < w0.heap.size := World.block_lt_of_cell? w0 _ c0_0
  have l0_0b : w.heap.size < w0.heap.size + 1 := Nat.lt_succ_of_lt l0_0a
  have l0_0c : w.heap.size < w0.heap.size + 1 + 1 := Nat.lt_succ_of_lt l0_0b
  have l0_0d : w.heap.size < w0.heap.size + 1 + 1 + 1 := Nat.lt_succ_of_lt l0_0c
  go_wp2_with fail
  refine (many_bad p A l c n hm HP.out _ (HT.out.belowB (show Below w.heap.size w _ from (by first | exact hB0 | ((repeat' (first | exact hB0 | refine Below.setCell ?_ ?_ _ | refine Below.alloc ?_ ?_ _ | refine Below.drew ?_)) <;> (first | omega | (simp <;> omega))))) HT.out.lt) ((hl.below (show Below w.heap.size w _ from (by first | exact hB0 | ((repeat' (first | exact hB0 | refine Below.setCell ?_ ?_ _ | refine Below.alloc ?_ ?_ _ | refine Below.drew ?_)) <;> (first | omega | (simp <;> omega)))))).more (show w.heap.size ≤ _ from by first | omega | (simp <;> omega)))).mono ?_
  rintro e w1 ⟨rfl, hb1⟩
  have hB1 : Below w.heap.size w w1 := Below.trans (by first | exact hB0 | ((repeat' (first | exact hB0 | refine Below.setCell ?_ ?_ _ | refine Below.alloc ?_ ?_ _ | refine Below.drew ?_)) <;> (first | omega | (simp <;> omega)))) (hb1.mono (by first | omega | (simp <;> omega)))
  have hs1 : w.heap.size ≤ w1.heap.size := hB1.size
  have ht1 := hb1.size
  try simp only [World.size_alloc, World.size_setCell] at ht1
  have c1_0 : w1.cell? ⟨w.heap.size, 0, none⟩ = some (.int .i64 p.1) := (hb1.cell (p := ⟨w.heap.size, 0, none⟩) (by first | omega | (simp <;> omega))).trans (by first | exact c0_0 | simp [go_sem, c0_0, l0_0a, l0_0b, l0_0c, l0_0d])
  have c1_1 : w1.cell? ⟨w.heap.size, 1, none⟩ = some (.int .i64 p.2) := (hb1.cell (p := ⟨w.heap.size, 1, none⟩) (by first | omega | (simp <;> omega))).trans (by first | exact c0_1 | simp [go_sem, c0_1, l0_0a, l0_0b, l0_0c, l0_0d])
  have l1_0a : w.heap.size < w1.heap.size := World.block_lt_of_cell? w1 _ c1_0
  have l1_0b : w.heap.size < w1.heap.size + 1 := Nat.lt_succ_of_lt l1_0a
  have l1_0c : w.heap.size < w1.heap.size + 1 + 1 := Nat.lt_succ_of_lt l1_0b
  have l1_0d : w.heap.size < w1.heap.size + 1 + 1 + 1 := Nat.lt_succ_of_lt l1_0c
  clear c0_0 c0_1 l0_0a l0_0b l0_0c l0_0d hB0 hb1
  go_wp2
  go_ret
  exact ⟨rfl, (by first | exact hB1 | ((repeat' (first | exact hB1 | refine Below.setCell ?_ ?_ _ | refine Below.alloc ?_ ?_ _ | refine Below.drew ?_)) <;> (first | omega | (simp <;> omega))))⟩
set_option maxRecDepth 100000 in
set_option maxHeartbeats 8000000 in
theorem freeFits_2b (p : Pf) (A : Option Addr) (l : List Pf) (c : Nat) (n : Int) (hm : l.length ≤ maxLen) (w : World) (ht : TabVar w) (hg : ErrVar w) (hl : Rd w w.heap.size A (cellsP l)) (hp : greatFault p l n = 0) (Q : Exit → Act → World → Prop) (s0 : Act) (w0 : World) (h0 : FFmid p A l c n w s0 w0)
    (h : ∀ a' w', FFmid2 p A l c n w a' w' → (tailN 2 (tailN 3 (Tryd.f3.body.getD .skip))).wp Tryd.prog Q a' w') :
    (tailN 3 (Tryd.f3.body.getD .skip)).wp Tryd.prog Q s0 w0 := by
  have HT := Lib.hid ht
  have HEV := Lib.hid hg
  clear ht hg
  have HP := Lib.hid hp
  clear hp
  obtain ⟨U, rfl, hB0, c0_0, c0_1⟩ := h0
  refine wp_cut 2 (FFmid2 p A l c n w) (by rfl) ?_ h
  clear h
  intro r HR
  dsimp only [Tryd.f3, Option.getD, tailN, putN]
  have hs0 := hB0.size
  have l0_0a : w.heap.size < w0.heap.size := World.block_lt_of_cell? w0 _ c0_0
  have l0_0b : w.heap.size < w0.heap.size + 1 := Nat.lt_succ_of_lt l0_0a
  have l0_0c : w.heap.size < w0.heap.size + 1 + 1 := Nat.lt_succ_of_lt l0_0b
  have l0_0d : w.heap.size < w0.heap.size + 1 + 1 + 1 := Nat.lt_succ_of_lt l0_0c
  go_wp2_with fail
  refine (many_ok p A l c n hm HP.out _ (HT.out.belowB (show Below w.heap.size w _ from (by first | exact hB0 | ((repeat' (first | exact hB0 | refine Below.setCell ?_ ?_ _ | refine Below.alloc ?_ ?_ _ | refine Below.drew ?_)) <;> (first | omega | (simp <;> omega))))) HT.out.lt) ((hl.below (show Below w.heap.size w _ from (by first | exact hB0 | ((repeat' (first | exact hB0 | refine Below.setCell ?_ ?_ _ | refine Below.alloc ?_ ?_ _ | refine Below.drew ?_)) <;> (first | omega | (simp <;> omega)))))).more (show w.heap.size ≤ _ from by first | omega | (simp <;> omega)))).mono ?_
  rintro e w1 ⟨rfl, hb1⟩
  have hB1 : Below w.heap.size w w1 := Below.trans (by first | exact hB0 | ((repeat' (first | exact hB0 | refine Below.setCell ?_ ?_ _ | refine Below.alloc ?_ ?_ _ | refine Below.drew ?_)) <;> (first | omega | (simp <;> omega)))) (hb1.mono (by first | omega | (simp <;> omega)))
  have hs1 : w.heap.size ≤ w1.heap.size := hB1.size
  have ht1 := hb1.size
  try simp only [World.size_alloc, World.size_setCell] at ht1
  have c1_0 : w1.cell? ⟨w.heap.size, 0, none⟩ = some (.int .i64 p.1) := (hb1.cell (p := ⟨w.heap.size, 0, none⟩) (by first | omega | (simp <;> omega))).trans (by first | exact c0_0 | simp [go_sem, c0_0, l0_0a, l0_0b, l0_0c, l0_0d])
  have c1_1 : w1.cell? ⟨w.heap.size, 1, none⟩ = some (.int .i64 p.2) := (hb1.cell (p := ⟨w.heap.size, 1, none⟩) (by first | omega | (simp <;> omega))).trans (by first | exact c0_1 | simp [go_sem, c0_1, l0_0a, l0_0b, l0_0c, l0_0d])
  have l1_0a : w.heap.size < w1.heap.size := World.block_lt_of_cell? w1 _ c1_0
  have l1_0b : w.heap.size < w1.heap.size + 1 := Nat.lt_succ_of_lt l1_0a
  have l1_0c : w.heap.size < w1.heap.size + 1 + 1 := Nat.lt_succ_of_lt l1_0b
  have l1_0d : w.heap.size < w1.heap.size + 1 + 1 + 1 := Nat.lt_succ_of_lt l1_0c
  clear c0_0 c0_1 l0_0a l0_0b l0_0c l0_0d hB0 hb1
  go_wp2_with fail
  refine wp_name ?_
  intro w2 hW2
  have hB2 : Below w.heap.size w w2 := by rw [hW2.out]; exact (by first | exact hB1 | ((repeat' (first | exact hB1 | refine Below.setCell ?_ ?_ _ | refine Below.alloc ?_ ?_ _ | refine Below.drew ?_)) <;> (first | omega | (simp <;> omega))))
  have hs2 : w.heap.size ≤ w2.heap.size := hB2.size
  have ht2 := congrArg (fun x : World => x.heap.size) hW2.out
  try simp only [World.size_alloc, World.size_setCell] at ht2
  have c2_0 : w2.cell? ⟨w.heap.size, 0, none⟩ = some (.int .i64 p.1) := by rw [hW2.out]; first | exact c1_0 | simp [go_sem, c1_0, l1_0a, l1_0b, l1_0c, l1_0d]
  have c2_1 : w2.cell? ⟨w.heap.size, 1, none⟩ = some (.int .i64 p.2) := by rw [hW2.out]; first | exact c1_1 | simp [go_sem, c1_1, l1_0a, l1_0b, l1_0c, l1_0d]
  have l2_0a : w.heap.size < w2.heap.size := World.block_lt_of_cell? w2 _ c2_0
  have l2_0b : w.heap.size < w2.heap.size + 1 := Nat.lt_succ_of_lt l2_0a
  have l2_0c : w.heap.size < w2.heap.size + 1 + 1 := Nat.lt_succ_of_lt l2_0b
  have l2_0d : w.heap.size < w2.heap.size + 1 + 1 + 1 := Nat.lt_succ_of_lt l2_0c
  have hu2 := Nat.le_of_eq ht2
  have hv2 := Nat.le_of_eq ht2.symm
  clear ht2 c1_0 c1_1 l1_0a l1_0b l1_0c l1_0d hB1 hW2
  exact HR.out _ _ (FFmid2.mk (by kernel_rfl) ⟨hB2, c2_0, c2_1⟩)
set_option maxRecDepth 100000 in
set_option maxHeartbeats 8000000 in
theorem freeFits_3a (p : Pf) (A : Option Addr) (l : List Pf) (c : Nat) (n : Int) (hm : l.length ≤ maxLen) (w : World) (ht : TabVar w) (hg : ErrVar w) (hl : Rd w w.heap.size A (cellsP l)) (hp : greatFault p l n = 0) (hgl : greatL p l n = []) (s0 : Act) (w0 : World) (h0 : FFmid2 p A l c n w s0 w0) :
    (tailN 2 (tailN 3 (Tryd.f3.body.getD .skip))).wp Tryd.prog (bodyPost Tryd.prog Tryd.f3 fun e w' => e = .returned (.bool true) ∧ Below w.heap.size w w') s0 w0 := by
  have HT := Lib.hid ht
  have HEV := Lib.hid hg
  clear ht hg
  have HMZ := Lib.hid (show manyL (greatL p l n) n = 0 by rw [hgl]; rfl)
  have HP := Lib.hid hp
  have HG := Lib.hid hgl
  clear hp hgl
  obtain ⟨U, rfl, hB0, c0_0, c0_1⟩ := h0
  dsimp only [Tryd.f3, Option.getD, tailN, putN]
  have hs0 := hB0.size
  have l0_0a : w.heap.size < w0.heap.size := World.block_lt_of_cell? w0 _ c0_0
  have l0_0b : w.heap.size < w0.heap.size + 1 := Nat.lt_succ_of_lt l0_0a
  have l0_0c : w.heap.size < w0.heap.size + 1 + 1 := Nat.lt_succ_of_lt l0_0b
  have l0_0d : w.heap.size < w0.heap.size + 1 + 1 + 1 := Nat.lt_succ_of_lt l0_0c
  go_wp2_with fail
  refine (first_none p A l c n hm HP.out HG.out _ (HT.out.belowB (show Below w.heap.size w _ from (by first | exact hB0 | ((repeat' (first | exact hB0 | refine Below.setCell ?_ ?_ _ | refine Below.alloc ?_ ?_ _ | refine Below.drew ?_)) <;> (first | omega | (simp <;> omega))))) HT.out.lt) ((hl.below (show Below w.heap.size w _ from (by first | exact hB0 | ((repeat' (first | exact hB0 | refine Below.setCell ?_ ?_ _ | refine Below.alloc ?_ ?_ _ | refine Below.drew ?_)) <;> (first | omega | (simp <;> omega)))))).more (show w.heap.size ≤ _ from by first | omega | (simp <;> omega)))).mono ?_
  rintro e w1 ⟨rfl, hb1⟩
  have hB1 : Below w.heap.size w w1 := Below.trans (by first | exact hB0 | ((repeat' (first | exact hB0 | refine Below.setCell ?_ ?_ _ | refine Below.alloc ?_ ?_ _ | refine Below.drew ?_)) <;> (first | omega | (simp <;> omega)))) (hb1.mono (by first | omega | (simp <;> omega)))
  have hs1 : w.heap.size ≤ w1.heap.size := hB1.size
  have ht1 := hb1.size
  try simp only [World.size_alloc, World.size_setCell] at ht1
  have c1_0 : w1.cell? ⟨w.heap.size, 0, none⟩ = some (.int .i64 p.1) := (hb1.cell (p := ⟨w.heap.size, 0, none⟩) (by first | omega | (simp <;> omega))).trans (by first | exact c0_0 | simp [go_sem, c0_0, l0_0a, l0_0b, l0_0c, l0_0d])
  have c1_1 : w1.cell? ⟨w.heap.size, 1, none⟩ = some (.int .i64 p.2) := (hb1.cell (p := ⟨w.heap.size, 1, none⟩) (by first | omega | (simp <;> omega))).trans (by first | exact c0_1 | simp [go_sem, c0_1, l0_0a, l0_0b, l0_0c, l0_0d])
  have l1_0a : w.heap.size < w1.heap.size := World.block_lt_of_cell? w1 _ c1_0
  have l1_0b : w.heap.size < w1.heap.size + 1 := Nat.lt_succ_of_lt l1_0a
  have l1_0c : w.heap.size < w1.heap.size + 1 + 1 := Nat.lt_succ_of_lt l1_0b
  have l1_0d : w.heap.size < w1.heap.size + 1 + 1 + 1 := Nat.lt_succ_of_lt l1_0c
  clear c0_0 c0_1 l0_0a l0_0b l0_0c l0_0d hB0 hb1
  go_wp2_with fail
  refine (error_same 4 (by decide) _ (by exact HEV.out.belowB (show Below w.heap.size w _ from (by first | exact hB1 | ((repeat' (first | exact hB1 | refine Below.setCell ?_ ?_ _ | refine Below.alloc ?_ ?_ _ | refine Below.drew ?_)) <;> (first | omega | (simp <;> omega))))) HEV.out.lt)).mono ?_
  rintro e w2 ⟨rfl, hb2⟩
  have hB2 : Below w.heap.size w w2 := Below.trans (by first | exact hB1 | ((repeat' (first | exact hB1 | refine Below.setCell ?_ ?_ _ | refine Below.alloc ?_ ?_ _ | refine Below.drew ?_)) <;> (first | omega | (simp <;> omega)))) (hb2.mono (by first | omega | (simp <;> omega)))
  have hs2 : w.heap.size ≤ w2.heap.size := hB2.size
  have ht2 := hb2.size
  try simp only [World.size_alloc, World.size_setCell] at ht2
  have c2_0 : w2.cell? ⟨w.heap.size, 0, none⟩ = some (.int .i64 p.1) := (hb2.cell (p := ⟨w.heap.size, 0, none⟩) (by first | omega | (simp <;> omega))).trans (by first | exact c1_0 | simp [go_sem, c1_0, l1_0a, l1_0b, l1_0c, l1_0d])
  have c2_1 : w2.cell? ⟨w.heap.size, 1, none⟩ = some (.int .i64 p.2) := (hb2.cell (p := ⟨w.heap.size, 1, none⟩) (by first | omega | (simp <;> omega))).trans (by first | exact c1_1 | simp [go_sem, c1_1, l1_0a, l1_0b, l1_0c, l1_0d])
  have l2_0a : w.heap.size < w2.heap.size := World.block_lt_of_cell? w2 _ c2_0
  have l2_0b : w.heap.size < w2.heap.size + 1 := Nat.lt_succ_of_lt l2_0a
  have l2_0c : w.heap.size < w2.heap.size + 1 + 1 := Nat.lt_succ_of_lt l2_0b
  have l2_0d : w.heap.size < w2.heap.size + 1 + 1 + 1 := Nat.lt_succ_of_lt l2_0c
  clear c1_0 c1_1 l1_0a l1_0b l1_0c l1_0d hB1 hb2
  rw [HMZ.out]
  go_wp2
  go_ret
  exact ⟨rfl, (by first | exact hB2 | ((repeat' (first | exact hB2 | refine Below.setCell ?_ ?_ _ | refine Below.alloc ?_ ?_ _ | refine Below.drew ?_)) <;> (first | omega | (simp <;> omega))))⟩
set_option maxRecDepth 100000 in
set_option maxHeartbeats 8000000 in
theorem freeFits_3b (p : Pf) (A : Option Addr) (l : List Pf) (c : Nat) (n : Int) (hm : l.length ≤ maxLen) (w : World) (ht : TabVar w) (hg : ErrVar w) (hl : Rd w w.heap.size A (cellsP l)) (b : Pf) (r' : List Pf) (hp : greatFault p l n = 0) (hgl : greatL p l n = b :: r') (Q : Exit → Act → World → Prop) (s0 : Act) (w0 : World) (h0 : FFmid2 p A l c n w s0 w0)
    (h : ∀ a' w', FFmid3 p A l c n w b.1 a' w' → (tailN 3 (tailN 2 (tailN 3 (Tryd.f3.body.getD .skip)))).wp Tryd.prog Q a' w') :
    (tailN 2 (tailN 3 (Tryd.f3.body.getD .skip))).wp Tryd.prog Q s0 w0 := by
  have HT := Lib.hid ht
  have HEV := Lib.hid hg
  clear ht hg
  have HP := Lib.hid hp
  have HG := Lib.hid hgl
  clear hp hgl
  obtain ⟨U, rfl, hB0, c0_0, c0_1⟩ := h0
  refine wp_cut 3 (FFmid3 p A l c n w b.1) (by rfl) ?_ h
  clear h
  intro r HR
  dsimp only [Tryd.f3, Option.getD, tailN, putN]
  have hs0 := hB0.size
  have l0_0a : w.heap.size < w0.heap.size := World.block_lt_of_cell? w0 _ c0_0
  have l0_0b : w.heap.size < w0.heap.size + 1 := Nat.lt_succ_of_lt l0_0a
  have l0_0c : w.heap.size < w0.heap.size + 1 + 1 := Nat.lt_succ_of_lt l0_0b
  have l0_0d : w.heap.size < w0.heap.size + 1 + 1 + 1 := Nat.lt_succ_of_lt l0_0c
  go_wp2_with fail
  refine (first_ok p A l c n b r' hm HP.out HG.out _ (HT.out.belowB (show Below w.heap.size w _ from (by first | exact hB0 | ((repeat' (first | exact hB0 | refine Below.setCell ?_ ?_ _ | refine Below.alloc ?_ ?_ _ | refine Below.drew ?_)) <;> (first | omega | (simp <;> omega))))) HT.out.lt) ((hl.below (show Below w.heap.size w _ from (by first | exact hB0 | ((repeat' (first | exact hB0 | refine Below.setCell ?_ ?_ _ | refine Below.alloc ?_ ?_ _ | refine Below.drew ?_)) <;> (first | omega | (simp <;> omega)))))).more (show w.heap.size ≤ _ from by first | omega | (simp <;> omega)))).mono ?_
  rintro e w1 ⟨rfl, hb1⟩
  have hB1 : Below w.heap.size w w1 := Below.trans (by first | exact hB0 | ((repeat' (first | exact hB0 | refine Below.setCell ?_ ?_ _ | refine Below.alloc ?_ ?_ _ | refine Below.drew ?_)) <;> (first | omega | (simp <;> omega)))) (hb1.mono (by first | omega | (simp <;> omega)))
  have hs1 : w.heap.size ≤ w1.heap.size := hB1.size
  have ht1 := hb1.size
  try simp only [World.size_alloc, World.size_setCell] at ht1
  have c1_0 : w1.cell? ⟨w.heap.size, 0, none⟩ = some (.int .i64 p.1) := (hb1.cell (p := ⟨w.heap.size, 0, none⟩) (by first | omega | (simp <;> omega))).trans (by first | exact c0_0 | simp [go_sem, c0_0, l0_0a, l0_0b, l0_0c, l0_0d])
  have c1_1 : w1.cell? ⟨w.heap.size, 1, none⟩ = some (.int .i64 p.2) := (hb1.cell (p := ⟨w.heap.size, 1, none⟩) (by first | omega | (simp <;> omega))).trans (by first | exact c0_1 | simp [go_sem, c0_1, l0_0a, l0_0b, l0_0c, l0_0d])
  have l1_0a : w.heap.size < w1.heap.size := World.block_lt_of_cell? w1 _ c1_0
  have l1_0b : w.heap.size < w1.heap.size + 1 := Nat.lt_succ_of_lt l1_0a
  have l1_0c : w.heap.size < w1.heap.size + 1 + 1 := Nat.lt_succ_of_lt l1_0b
  have l1_0d : w.heap.size < w1.heap.size + 1 + 1 + 1 := Nat.lt_succ_of_lt l1_0c
  clear c0_0 c0_1 l0_0a l0_0b l0_0c l0_0d hB0 hb1
  go_wp2_with fail
  have hz0 : w.heap.size < w1.heap.size := World.block_lt_of_cell? w1 _ c1_0
  have hPB1 : Below w.heap.size w w1 := hB1
  refine (best_all p A l c n hm _ (HT.out.belowB (show Below w.heap.size w _ from (by first | exact hB1 | ((repeat' (first | exact hB1 | refine Below.setCell ?_ ?_ _ | refine Below.alloc ?_ ?_ _ | refine Below.drew ?_)) <;> (first | omega | (simp <;> omega))))) HT.out.lt) ((hl.below (show Below w.heap.size w _ from (by first | exact hB1 | ((repeat' (first | exact hB1 | refine Below.setCell ?_ ?_ _ | refine Below.alloc ?_ ?_ _ | refine Below.drew ?_)) <;> (first | omega | (simp <;> omega)))))).more (show w.heap.size ≤ _ from by first | omega | (simp <;> omega)))).mono ?_
  rintro e w2 ⟨rfl, hb2⟩
  have hQ2 : Blk w2 w1.heap.size 23 #[.int .i64 b.1, .int .i64 n] := Blk.below (by first | exact (Blk.new w1 _ #[.int .i64 0, .int .i64 0]).store2 | exact Blk.new w1 _ _) hb2 (by simp)
  have hBW2 : Below w.heap.size w w2 := Below.trans (by first | exact hPB1 | ((repeat' (first | exact hPB1 | refine Below.setCell ?_ ?_ _ | refine Below.alloc ?_ ?_ _ | refine Below.drew ?_)) <;> (first | omega | (simp <;> omega)))) (hb2.mono (by first | omega | (simp <;> omega)))
  have e0 : w2.cell? ⟨w.heap.size, 0, none⟩ = some (.int .i64 p.1) := (hb2.cell (p := ⟨w.heap.size, 0, none⟩) (by first | omega | (simp <;> omega))).trans (by first | exact c1_0 | simp [go_sem, c1_0, l1_0a, l1_0b, l1_0c, Nat.ne_of_lt l1_0a])
  have e1 : w2.cell? ⟨w.heap.size, 1, none⟩ = some (.int .i64 p.2) := (hb2.cell (p := ⟨w.heap.size, 1, none⟩) (by first | omega | (simp <;> omega))).trans (by first | exact c1_1 | simp [go_sem, c1_1, l1_0a, l1_0b, l1_0c, Nat.ne_of_lt l1_0a])
  have hq2 := hQ2.lt
  have hz02 : w.heap.size < w2.heap.size := by omega
  clear hb2
  go_wp2_with fail
  refine wp_name ?_
  intro w3 hW3
  have hB3 : Blk w3 w2.heap.size 23 #[.int .i64 (bestV p l n).1, .int .i64 (bestV p l n).2] := by rw [hW3.out]; first | exact (Blk.new w2 _ #[.int .i64 0, .int .i64 0]).store2 | exact Blk.new w2 _ _
  have hQ3 : Blk w3 w1.heap.size 23 #[.int .i64 b.1, .int .i64 n] := by rw [hW3.out]; first | exact ((hQ2.alloc _).far (by simp; omega) _).far (by simp; omega) _ | exact hQ2.alloc _
  have hBW3 : Below w.heap.size w w3 := by rw [hW3.out]; exact (by first | exact hBW2 | ((repeat' (first | exact hBW2 | refine Below.setCell ?_ ?_ _ | refine Below.alloc ?_ ?_ _ | refine Below.drew ?_)) <;> (first | omega | (simp <;> omega))))
  have f0 : w3.cell? ⟨w.heap.size, 0, none⟩ = some (.int .i64 p.1) := by rw [hW3.out]; first | exact e0 | (simp [go_sem, e0, hq2, hz0, hz02]; done) | (simp [go_sem, e0, hq2, hz0, hz02]; omega)
  have f1 : w3.cell? ⟨w.heap.size, 1, none⟩ = some (.int .i64 p.2) := by rw [hW3.out]; first | exact e1 | (simp [go_sem, e1, hq2, hz0, hz02]; done) | (simp [go_sem, e1, hq2, hz0, hz02]; omega)
  exact HR.out _ _ (FFmid3.mk w1.heap.size w2.heap.size (by kernel_rfl) ⟨hBW3, f0, f1, hz0, by omega, hQ3, hB3⟩)
end Go.Proofs.YtobmndjdlmeipaaDoor
